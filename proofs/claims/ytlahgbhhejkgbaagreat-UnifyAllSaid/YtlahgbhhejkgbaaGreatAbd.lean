/- Texts of this proof, joined. -/
import Derived.Test.YtlahgbhhejkgbaaGreatAaw

/- the reference's substitutions: New, size, put, Apply -/
set_option maxRecDepth 4000
namespace Go.Proofs.YtlahgbhhejkgbaaGreat
open Go Go.RowKit Go.V
set_option linter.unusedVariables false
set_option linter.unusedSimpArgs false

def q7g (l : List Pr) : Prop := ∀ p ∈ l, szY p.ty ≤ 20000 ∧ dpY p.ty ≤ 300
theorem qjs {s : List Pr} (h : okS s) : q7g s := fun p hp => by have := qmu h p hp; omega
theorem qkm : ∀ (l s : List Pr) (p : Pr), addR s (l ++ [p]) = (setR (addR s l) p.v p.ty).1
 | [], s, p => rfl
 | x :: l, s, p => by rw [List.cons_append, addR, addR, qkm l]
theorem qvt {l : List Pr} {i : Nat} (h : i < l.length) : l.take (i + 1) = l.take i ++ [l.getD i R0] := by
 rw [List.take_add_one, List.getD_eq_getElem?_getD, List.getElem?_eq_getElem h]; rfl
theorem qoe {l : List Pr} {i : Nat} (h : i < l.length) (s : List Pr) : addR s (l.take (i + 1)) = (setR (addR s (l.take i)) (l.getD i R0).v (l.getD i R0).ty).1 := by rw [qvt h, qkm]
theorem qs7 {s : List Pr} (hs : okR s) : ∀ t, sizR s t ≤ 4096 * szY t := Ty.ind fun t ih => by
 rw [qm3, qd7]
 have key : ∀ l : List Ty, (∀ x ∈ l, sizR s x ≤ 4096 * szY x) → qcv s l ≤ 4096 * szYs l := fun l => by
  induction l with
  | nil => intro _; rw [qcv]; omega
  | cons x r ihr =>
    intro h
    rw [qcv, szYs]
    have := h x (by simp)
    have := ihr fun y hy => h y (by simp [hy])
    omega
 have h1 := key t.args ih
 split
 ·cases hl : qm t.var s with
  | some u => have := qg3 hs hl; simp only; omega
  | none => simp only; omega
 ·omega
theorem qu8 (s : List Pr) {l : List Ty} {i : Nat} (h : i < l.length) : qcv s (l.take (i + 1)) = qcv s (l.take i) + sizR s (l.getD i Y0) := by
 have h1 : l.take (i + 1) = l.take i ++ [l.getD i Y0] := by
  rw [List.take_add_one, List.getD_eq_getElem?_getD, List.getElem?_eq_getElem h]; rfl
 rw [h1]
 generalize l.take i = a
 induction a with
 | nil => simp [qcv]
 | cons x a ih => rw [List.cons_append, qcv, qcv, ih]; omega
theorem quf {s : List Pr} (hs : okR s) : ∀ l, qcv s l ≤ 4096 * szYs l
 | [] => by rw [qcv]; omega
 | x :: r => by rw [qcv, szYs]; have := qs7 hs x; have := quf hs r; omega
theorem qqk {s : List Pr} {v : Int} {u : Ty} (h : qm v s = some u) : getA s v = .tup [encY u, .bool true] := by rw [getA, h]
theorem qqh {s : List Pr} {v : Int} (h : qm v s = none) : getA s v = .tup [encY Y0, .bool false] := by rw [getA, h]
theorem qum {s : List Pr} (hs : okR s) : ∀ t, szY t ≤ 1000000 → ql Tryz.prog 70 [.sl 4 (qt s), encY t] (.int .i64 (sizR s t)) := by
 refine Ty.ind fun t ih hb => ?_
 refine qf c0dd (by simp) (by simp only [go_sem]) rfl fun hw => ?_
 have hk := qcu hw.2.1
 have hsz := qd7 t
 have f := qkx s t.var
 by_cases hc : t.con = []
 ·cases hl : qm t.var s with
  | some u =>
    have hu := qg3 hs hl
    rw [qqk hl] at f
    have g := qh0 u
    rw [qf2 u (by omega)] at g
    have e : sizR s t = szY u := by rw [qm3, if_pos hc, hl]
    rw [e]
    repeat' (first | refine vs_ ?_ | ((first | refine vr_ ?_ | fail) <;> (try simp only [hc, go_sem, ↓reduceIte])) | ((first | (refine cs_ ?_ ?_ <;> intro hc) | refine cj_ ?_ | simp (disch := omega) only [encs_getN, qb] | refine qa f fun _ => ?_ | refine qa g fun _ => ?_) <;> (try refine ev_ ?_)) | with_reducible exact ti_)
  | none =>
    rw [qqh hl] at f
    have e : sizR s t = 1 := by rw [qm3, if_pos hc, hl]
    rw [e]
    repeat' (first | refine vs_ ?_ | ((first | refine vr_ ?_ | fail) <;> (try simp only [hc, go_sem, ↓reduceIte])) | ((first | (refine cs_ ?_ ?_ <;> intro hc) | refine cj_ ?_ | simp (disch := omega) only [encs_getN, qb] | refine qa f fun _ => ?_) <;> (try refine ev_ ?_)) | with_reducible exact ti_)
 ·have ih' : ∀ i, i < t.args.length → ql Tryz.prog 70 [.sl 4 (qt s), encY (t.args.getD i Y0)] (.int .i64 (sizR s (t.args.getD i Y0))) := fun i hi => ih _ (qs hi) (by have := qe6 (qs hi); omega)
  have e : sizR s t = 1 + qcv s t.args := by rw [qm3, if_neg hc]
  rw [e]
  repeat' (first | refine vs_ ?_ | ((first | refine vr_ ?_ | fail) <;> (try simp only [hc, go_sem, ↓reduceIte])) | ((first | (refine cs_ ?_ ?_ <;> intro hc) | refine cj_ ?_ | simp (disch := omega) only [encs_getN, qb]) <;> (try refine ev_ ?_)) | with_reducible exact ti_)
  refine qq (S := Nat) (fun i => i ≤ t.args.length) (fun i => (⟨[(0, .sl 4 (qt s)), (3, .ptr 0 0), (7, .int .i64 ((1 + qcv s (t.args.take i) : Nat) : Int)), (8, .int .i64 i)], []⟩, [.blk (yc t)])) (fun i => t.args.length - i) ?_ fun i hi => ?_
  ·refine qh 0 [0] (Nat.zero_le _) rfl (by simp) ?_ ?_ ?_ <;> simp only [List.take_zero, qcv] <;> (try refine ev_ ?_) <;> (try with_reducible exact ti_) <;> (try simp (disch := omega) only [qb, and_true, true_and])
  ·by_cases hlt : i < t.args.length
   ·have h1 := qu8 s hlt
    have h2 := quf hs (t.args.take i)
    have h3 := qjz t.args i
    have h4 := qs7 hs (t.args.getD i Y0)
    have h5 := qe6 (qs hlt)
    have hwr : IntKind.i64.wrap (((1 + qcv s (t.args.take i) : Nat) : Int) + (sizR s (t.args.getD i Y0) : Int)) = ((1 + qcv s (t.args.take (i + 1)) : Nat) : Int) := by rw [h1, qv (by omega) (by omega)]; omega
    repeat' (first | refine vs_ ?_ | ((first | refine vr_ ?_ | fail) <;> (try simp (disch := first | omega | (simp only [List.length_set, List.length_append, List.length_cons, List.length_nil]; done) | (simp only [List.length_set, List.length_append, List.length_cons, List.length_nil]; omega)) only [qj, qb, hwr, go_sem, ↓reduceIte])) | ((first | simp (disch := omega) only [qj] | simp (disch := omega) only [hwr] | (refine cs_ ?_ ?_ <;> intro hc) | refine cj_ ?_ | simp (disch := omega) only [encs_getN, qb] | refine qa (ih' i hlt) fun _ => ?_) <;> (try refine ev_ ?_)) | with_reducible exact ti_)
    ·refine qh (i + 1) [0] ⟨by omega, by omega⟩ rfl (by simp) ?_ ?_ ?_ <;> (try refine ev_ ?_) <;> (try with_reducible exact ti_) <;> (try simp (disch := omega) only [qb, and_true, true_and])
    ·omega
   ·have hti : t.args.take i = t.args := List.take_of_length_le (by omega)
    rw [hti]
    repeat' (first | refine vs_ ?_ | ((first | refine vr_ ?_ | (refine cs_ ?_ ?_ <;> intro hc) | refine cj_ ?_ | simp (disch := omega) only [encs_getN, qb]) <;> (try refine ev_ ?_)) | with_reducible exact ti_)
    omega
theorem qwd (s : List Pr) {l : List Ty} {i : Nat} (h : i < l.length) : qk (qb0 s (l.take (i + 1))) = qk (qb0 s (l.take i)) ++ [encY (putY s (l.getD i Y0))] := by
 have h1 : l.take (i + 1) = l.take i ++ [l.getD i Y0] := by
  rw [List.take_add_one, List.getD_eq_getElem?_getD, List.getElem?_eq_getElem h]; rfl
 rw [h1, qhi, qhi, List.map_append, qb1, qb1, List.map_append]; rfl
def rpSt (s : List Pr) (t : Ty) (i : Nat) : AF × List Ent :=
 (⟨[(0, .sl 4 (qt s)), (3, .ptr 0 0), (4, .ptr 1 0), (7, accV 2 (qk (qb0 s (t.args.take i)))), (8, .int .i64 i)], []⟩, .blk (yc t) :: .blk [.str [], .int .i64 0, .nils] :: accE 3 (qk (qb0 s (t.args.take i))))
set_option maxHeartbeats 1000000 in
theorem q0g {s : List Pr} : ∀ t, szY t ≤ 1000000 → ql Tryz.prog 71 [.sl 4 (qt s), encY t] (encY (putY s t)) := by
 refine Ty.ind fun t ih hb => ?_
 refine qf c0de (by simp) (by simp only [go_sem]) (qz 0 _) fun hw => ?_
 have hk := qcu hw.2.1
 have hsz := qd7 t
 have hal := qdz t.args
 have f := qkx s t.var
 by_cases hc : t.con = []
 ·cases hl : qm t.var s with
  | some u =>
    rw [qqk hl] at f
    have e : putY s t = u := by rw [qni, if_pos hc, hl]
    rw [e]
    repeat' (first | refine vs_ ?_ | ((first | refine vr_ ?_ | fail) <;> (try simp only [hc, qb4, go_sem, ↓reduceIte])) | ((first | (refine cs_ ?_ ?_ <;> intro hc) | refine cj_ ?_ | simp (disch := omega) only [encs_getN, qb] | refine qa f fun _ => ?_) <;> (try refine ev_ ?_)) | with_reducible exact ti_)
  | none =>
    rw [qqh hl] at f
    have e : putY s t = t := by rw [qni, if_pos hc, hl]
    rw [e]
    have hy : AV.agg [.str [], .int .i64 t.var, .sl 3 (qk t.args)] = encY t := by rw [← qb4, hc]
    repeat' (first | refine vs_ ?_ | ((first | refine vr_ ?_ | fail) <;> (try simp only [hc, hy, go_sem, ↓reduceIte])) | ((first | (refine cs_ ?_ ?_ <;> intro hc) | refine cj_ ?_ | simp (disch := omega) only [encs_getN, qb] | refine qa f fun _ => ?_) <;> (try refine ev_ ?_)) | with_reducible exact ti_)
 ·have ih' : ∀ i, i < t.args.length → ql Tryz.prog 71 [.sl 4 (qt s), encY (t.args.getD i Y0)] (encY (putY s (t.args.getD i Y0))) := fun i hi => ih _ (qs hi) (by have := qe6 (qs hi); omega)
  have e : putY s t = .mk t.con t.var (qb0 s t.args) := by rw [qni, if_neg hc]
  have hy : AV.agg [.str t.con, .int .i64 t.var, .sl 3 (qk (qb0 s t.args))] = encY (.mk t.con t.var (qb0 s t.args)) := by rw [encY]
  rw [e]
  repeat' (first | refine vs_ ?_ | ((first | refine vr_ ?_ | fail) <;> (try simp only [hc, go_sem, ↓reduceIte])) | ((first | (refine cs_ ?_ ?_ <;> intro hc) | refine cj_ ?_ | simp (disch := omega) only [encs_getN, qb]) <;> (try refine ev_ ?_)) | with_reducible exact ti_)
  refine qq (S := Nat) (fun i => i ≤ t.args.length) (rpSt s t) (fun i => t.args.length - i) ?_ fun i hi => ?_
  ·refine qh 0 [0, 1] (Nat.zero_le _) rfl (by simp) ?_ ?_ ?_ <;> simp only [rpSt, List.take_zero, qb0, qk1, q9, qbb] <;> (try refine ev_ ?_) <;> (try with_reducible exact ti_) <;> (try simp (disch := omega) only [qb, and_true, true_and])
  ·have hlm : (qk (qb0 s (t.args.take i))).length = i := by rw [qbc, qgw, List.length_take]; omega
   have hcap : qb3 (i + 1) 48 = True := eq_true (capY (by omega))
   have hcap1 : qb3 1 48 = True := eq_true (capY (by omega))
   unfold rpSt
   by_cases hlt : i < t.args.length
   ·have hs := qwd s hlt
    by_cases h0 : i = 0
    ·subst h0
     simp only [List.take_zero, qb0, qk1, q9, qbb, List.nil_append] at hs ⊢
     repeat' (first | refine vs_ ?_ | ((first | refine vr_ ?_ | fail) <;> (try simp (disch := first | omega | (simp only [List.length_set, List.length_append, List.length_cons, List.length_nil]; done) | (simp only [List.length_set, List.length_append, List.length_cons, List.length_nil]; omega)) only [qj, qb, go_sem, ↓reduceIte])) | ((first | simp (disch := omega) only [qj] | simp (disch := omega) only [hcap1] | (refine cs_ ?_ ?_ <;> intro hc) | refine cj_ ?_ | simp (disch := omega) only [encs_getN, qb] | refine qa (ih' 0 hlt) fun _ => ?_) <;> (try refine ev_ ?_)) | with_reducible exact ti_)
     ·refine qh 1 [0, 1, 2] ⟨by omega, by omega⟩ rfl (by simp) ?_ ?_ ?_ <;> simp only [rpSt, hs, qjf, qi3] <;> (try refine ev_ ?_) <;> (try with_reducible exact ti_) <;> (try simp (disch := omega) only [qb, and_true, true_and])
      all_goals (rw [qh8])
     ·omega
    ·have hne : qk (qb0 s (t.args.take i)) ≠ [] := fun h => h0 (by rw [← hlm, h]; rfl)
     simp only [qbo hne, qbn hne, hlm]
     have hlm2 : (qb0 s (t.args.take i)).length = i := by rw [qgw, List.length_take]; omega
     repeat' (first | refine vs_ ?_ | ((first | refine vr_ ?_ | fail) <;> (try simp (disch := first | omega | (simp only [List.length_set, List.length_append, List.length_cons, List.length_nil]; done) | (simp only [List.length_set, List.length_append, List.length_cons, List.length_nil]; omega)) only [qj, qb, hlm, hlm2, go_sem, ↓reduceIte])) | ((first | simp (disch := omega) only [qj] | simp (disch := omega) only [hcap] | (refine cs_ ?_ ?_ <;> intro hc) | refine cj_ ?_ | simp (disch := omega) only [encs_getN, qb] | refine qa (ih' i hlt) fun _ => ?_) <;> (try refine ev_ ?_)) | with_reducible exact ti_)
     ·refine qh (i + 1) [0, 1, 3] ⟨by omega, by omega⟩ rfl (by simp) ?_ ?_ ?_ <;> simp only [rpSt, hs, qg4, qhp, hlm] <;> (try refine ev_ ?_) <;> (try with_reducible exact ti_) <;> (try simp (disch := omega) only [qb, and_true, true_and])
      all_goals (rw [← hs]; exact ⟨qce _ _, by rw [qe5]⟩)
     ·omega
   ·have hti : t.args.take i = t.args := List.take_of_length_le (by omega)
    rw [hti] at hlm ⊢
    by_cases h0 : t.args = []
    ·have hp : qb0 s t.args = [] := by rw [h0, qb0]
     rw [hp] at hlm hy ⊢
     simp only [qk1, q9, qbb] at hy ⊢
     repeat' (first | refine vs_ ?_ | ((first | refine vr_ ?_ | fail) <;> (try simp only [qbf, hy, go_sem, ↓reduceIte])) | ((first | (refine cs_ ?_ ?_ <;> intro hc) | refine cj_ ?_ | simp (disch := omega) only [encs_getN, qb]) <;> (try refine ev_ ?_)) | with_reducible exact ti_)
     ·omega
    ·have hne : qk (qb0 s t.args) ≠ [] := fun h => h0 (by have := congrArg List.length h; rw [qbc, qgw] at this; exact List.length_eq_zero_iff.1 this)
     simp only [qbo hne, qbn hne, hlm]
     repeat' (first | refine vs_ ?_ | ((first | refine vr_ ?_ | fail) <;> (try simp only [hlm, hy, go_sem, ↓reduceIte])) | ((first | (refine cs_ ?_ ?_ <;> intro hc) | refine cj_ ?_ | simp (disch := omega) only [encs_getN, qb]) <;> (try refine ev_ ?_)) | with_reducible exact ti_)
     ·omega
set_option maxRecDepth 4000

theorem qbjy {s : List Pr} (hs : okR s) : ∀ t, dpY (putY s t) ≤ dpY t + 100 := Ty.ind fun t ih => by
 rw [qni]
 split
 ·cases hl : qm t.var s with
  | some u => have := qg3 hs hl; simp only; omega
  | none => simp only; omega
 ·rw [qt4 t]
  show dpY (.mk _ _ _) ≤ _
  rw [dpY]
  have key : ∀ l : List Ty, (∀ x ∈ l, dpY (putY s x) ≤ dpY x + 100) → dpYs (qb0 s l) ≤ dpYs l + 100 := fun l => by
   induction l with
   | nil => intro _; rw [qb0, dpYs]; omega
   | cons x r ihr =>
     intro h
     rw [qb0, dpYs, dpYs]
     have := h x (by simp)
     have := ihr fun y hy => h y (by simp [hy])
     omega
  have := key t.args ih
  omega
theorem qel {s : List Pr} (hs : okS s) {t : Ty} (h1 : szY t ≤ 20000) (h2 : dpY t ≤ 300) : ql Tryz.prog 49 [.sl 4 (qt s), encY t] (typA (appR s t)) := by
 refine qf c0db (by simp) (by simp only [go_sem]) (qmt _ _) fun hw => ?_
 have f1 := qcc h1 h2
 cases ht : qd t with
 | false =>
   rw [ht] at f1
   have e : appR s t = (Y0, 1) := by rw [appR, if_neg (by rw [ht]; simp)]
   rw [e, typA]
   repeat' (first | refine vs_ ?_ | ((first | refine vr_ ?_ | fail) <;> (try simp only [qpr, qbf, go_sem, ↓reduceIte])) | ((first | (refine cs_ ?_ ?_ <;> intro hc) | refine cj_ ?_ | fail | refine qa f1 fun _ => ?_) <;> (try refine ev_ ?_)) | with_reducible exact ti_)
 | true =>
   rw [ht] at f1
   have hz := qqq ht
   have f2 := qum (qmu hs) t (by omega)
   by_cases hb : 4096 < sizR s t
   ·have e : appR s t = (Y0, 2) := by rw [appR, if_pos ht, if_pos hb]
    rw [e, typA]
    repeat' (first | refine vs_ ?_ | ((first | refine vr_ ?_ | fail) <;> (try simp only [qpr, qbf, go_sem, ↓reduceIte])) | ((first | (refine cs_ ?_ ?_ <;> intro hc) | refine cj_ ?_ | fail | refine qa f1 fun _ => ?_ | refine qa f2 fun _ => ?_) <;> (try refine ev_ ?_)) | with_reducible exact ti_)
    omega
   ·have hp := qnf s t (qcw t (qeg ht))
    have hd := qbjy (qmu hs) t
    have f3 := q0g (s := s) t (by omega)
    have f4 := qcc (t := putY s t) (by omega) (by omega)
    cases hu : qd (putY s t) with
    | false =>
      rw [hu] at f4
      have e : appR s t = (Y0, 2) := by rw [appR, if_pos ht, if_neg hb, if_neg (by rw [hu]; simp)]
      rw [e, typA]
      repeat' (first | refine vs_ ?_ | ((first | refine vr_ ?_ | fail) <;> (try simp only [qpr, qbf, go_sem, ↓reduceIte])) | ((first | (refine cs_ ?_ ?_ <;> intro hc) | refine cj_ ?_ | fail | refine qa f1 fun _ => ?_ | refine qa f2 fun _ => ?_ | refine qa f3 fun _ => ?_ | refine qa f4 fun _ => ?_) <;> (try refine ev_ ?_)) | with_reducible exact ti_)
    | true =>
      rw [hu] at f4
      have e : appR s t = (putY s t, 0) := by rw [appR, if_pos ht, if_neg hb, if_pos hu]
      rw [e, typA]
      repeat' (first | refine vs_ ?_ | ((first | refine vr_ ?_ | fail) <;> (try simp only [qpr, qbf, go_sem, ↓reduceIte])) | ((first | (refine cs_ ?_ ?_ <;> intro hc) | refine cj_ ?_ | fail | refine qa f1 fun _ => ?_ | refine qa f2 fun _ => ?_ | refine qa f3 fun _ => ?_ | refine qa f4 fun _ => ?_) <;> (try refine ev_ ?_)) | with_reducible exact ti_)
      omega
def qqt (a b : Pr) : Bool := decide (a.v = b.v) && qnd a.ty b.ty
theorem q00 (a b : Pr) : qqt a b = true ↔ a = b := by
 rw [qqt, Bool.and_eq_true, decide_eq_true_eq, q2s]
 cases a; cases b; simp
def qgm : List Pr → List Pr → Bool
 | [], [] => true
 | x :: r, y :: r' => qqt x y && qgm r r'
 | _, _ => false
theorem qj8 : ∀ l m, qgm l m = true ↔ l = m
 | [], [] => by simp [qgm]
 | [], y :: r => by rw [qgm] <;> simp
 | x :: r, [] => by rw [qgm] <;> simp
 | x :: r, y :: r' => by rw [qgm, Bool.and_eq_true, q00, qj8 r r']; simp
theorem qw0 {l m : List Pr} (h : l.length ≠ m.length) : qgm l m = false := by
 cases hh : qgm l m with
 | false => rfl
 | true => rw [(qj8 l m).1 hh] at h; exact absurd rfl h
theorem qib {l m : List Pr} {i : Nat} (h : i < l.length) (h' : i < m.length) : qgm (l.drop i) (m.drop i) = (qqt (l.getD i R0) (m.getD i R0) && qgm (l.drop (i + 1)) (m.drop (i + 1))) := by
 rw [q0b h, q0b h', qgm]
theorem qvh (l m : List Pr) : ql Tryz.prog 11 [.sl 4 (qt l), .sl 4 (qt m)] (.bool (qgm l m)) := by
 refine qf c0dc (by simp) (by simp only [go_sem]) rfl fun hw => ?_
 have hl := (qg2 hw.1).1
 repeat' (first | refine vs_ ?_ | ((first | refine vr_ ?_ | (refine cs_ ?_ ?_ <;> intro hc) | refine cj_ ?_ | simp (disch := omega) only [encs_getN, qb]) <;> (try refine ev_ ?_)) | with_reducible exact ti_)
 ·rw [qw0 (by omega)]
 have hlm : l.length = m.length := by omega
 refine qq (S := Nat) (fun i => i ≤ l.length ∧ qgm (l.drop i) (m.drop i) = qgm l m) (fun i => (⟨[(0, .sl 4 (qt l)), (1, .sl 4 (qt m)), (5, .int .i64 i)], []⟩, [])) (fun i => l.length - i) ?_ fun i hi => ?_
 ·refine qh 0 [] ⟨Nat.zero_le _, rfl⟩ rfl (by simp) ?_ ?_ ?_ <;> (try refine ev_ ?_) <;> (try with_reducible exact ti_) <;> (try simp (disch := omega) only [qb, and_true, true_and])
 ·obtain ⟨hi, ha⟩ := hi
  repeat' (first | refine vs_ ?_ | ((first | refine vr_ ?_ | fail) <;> (try simp (disch := first | omega | (simp only [List.length_set, List.length_append, List.length_cons, List.length_nil]; done) | (simp only [List.length_set, List.length_append, List.length_cons, List.length_nil]; omega)) only [qn, qb, qdd, go_sem, ↓reduceIte])) | ((first | simp (disch := omega) only [qn] | (refine cs_ ?_ ?_ <;> intro hc) | refine cj_ ?_ | simp (disch := omega) only [encs_getN, qb] | refine qa (qlt _ _) fun _ => ?_ | refine qc (qlt _ _) ?_) <;> (try refine ev_ ?_)) | with_reducible exact ti_)
  ·rename_i hc
   rw [← ha, qib (by omega) (by omega), qqt, decide_eq_false hc]; rfl
  ·rename_i h0 hc
   have h0 : (l.getD i R0).v = (m.getD i R0).v := by assumption
   rw [← ha, qib (by omega) (by omega), qqt, decide_eq_true h0, hc]; rfl
  ·rename_i h0 hc
   have h0 : (l.getD i R0).v = (m.getD i R0).v := by assumption
   refine qh (i + 1) [] ⟨⟨by omega, ?_⟩, by omega⟩ rfl (by simp) ?_ ?_ ?_ <;> (try refine ev_ ?_) <;> (try with_reducible exact ti_) <;> (try simp (disch := omega) only [qb, and_true, true_and])
   rw [← ha, qib (l := l) (m := m) (i := i) (by omega) (by omega), qqt, decide_eq_true h0, hc]; rfl
  ·rw [← ha, List.drop_of_length_le (by omega), List.drop_of_length_le (by omega)]; rfl
set_option maxRecDepth 4000

theorem qu3 {t acc s : List Pr} {i : Nat} (h : i < s.length) : qd9 t acc (s.drop i) = if (appR t (s.getD i R0).ty).2 = 0 then qd9 t (acc ++ [⟨(s.getD i R0).v, (appR t (s.getD i R0).ty).1⟩]) (s.drop (i + 1)) else ([], (appR t (s.getD i R0).ty).2) := by rw [q0b h, qd9]
def thV (a : List Pr) (t : List Pr) (i : Nat) : AV := if i = 0 then accV 0 (qt a) else .sl 4 (qt (addR a (t.take i)))
theorem qqg (a t : List Pr) : thV a t 0 = accV 0 (qt a) := rfl
theorem qbjv (a t : List Pr) (i : Nat) : thV a t (i + 1) = .sl 4 (qt (addR a (t.take (i + 1)))) := rfl
theorem q7f (a t : List Pr) {i : Nat} (h : i ≠ 0) : thV a t i = .sl 4 (qt (addR a (t.take i))) := if_neg h
def thE (a : List Pr) (i : Nat) : List Ent := if i = 0 then accE 4 (qt a) else []
theorem qm1 (a : List Pr) : thE a 0 = accE 4 (qt a) := rfl
theorem qbb8 (a : List Pr) (i : Nat) : thE a (i + 1) = [] := rfl
theorem q7u (a : List Pr) {i : Nat} (h : i ≠ 0) : thE a i = [] := if_neg h
def rtS1 (s t : List Pr) (x : Nat × List Pr) : AF × List Ent := (⟨[(0, .sl 4 (qt s)), (1, .sl 4 (qt t)), (6, accV 0 (qt x.2)), (7, .int .i64 x.1)], []⟩, accE 4 (qt x.2))
def rtS2 (s t a : List Pr) (i : Nat) : AF × List Ent := (⟨[(0, .sl 4 (qt s)), (1, .sl 4 (qt t)), (6, thV a t i), (10, .int .i64 i)], []⟩, thE a i)
set_option maxHeartbeats 2000000 in
theorem qqi {s t a : List Pr} (h1 : a.length ≤ 40000) (ht : q7g t) (h2 : t.length ≤ 40000) (hml : t.length ≤ maxLen) : VI Tryz.prog none 65 0 (.loop qtd) (blq 2 (sq Tryz.prog none 65 0 (k0da_r18.seq IC.ret)
 (retq 0 [(RV.t 4, Co.sl 4), (RV.t 5, Co.id)] fun H' o => o = VO.val (rowA (addR a t, 0))))) (rtS2 s t a 0).1 (rtS2 s t a 0).2 := by
 refine qq (S := Nat) (fun i => i ≤ t.length) (rtS2 s t a) (fun i => t.length - i) ?_ fun i hi => ?_
 ·by_cases hn : a = []
  ·subst hn
   refine qh 0 [] (Nat.zero_le _) rfl (by simp) ?_ ?_ ?_ <;> simp only [rtS2, qqg, qm1, qco, q9, qbb] <;> (try refine ev_ ?_) <;> (try with_reducible exact ti_) <;> (try simp (disch := omega) only [qb, and_true, true_and])
  ·have hne := qfs hn
   refine qh 0 [0] (Nat.zero_le _) (by simp [rtS2, qm1, qbn hne, q58]) (by simp) ?_ ?_ ?_ <;> simp only [rtS2, qqg, qm1, qbo hne, qbn hne, q6] <;> (try refine ev_ ?_) <;> (try with_reducible exact ti_) <;> (try simp (disch := omega) only [qb, and_true, true_and])
 have hlen := qjb (t.take i) a
 rw [List.length_take] at hlen
 unfold rtS2
 by_cases hlt : i < t.length
 ·have hp := ht _ (qdv hlt)
  have f := qps (s := addR a (t.take i)) (v := (t.getD i R0).v) (by omega) hp.1 hp.2
  have hstep := qoe hlt a
  by_cases h0 : i = 0
  ·subst h0
   rw [List.take_zero, addR] at f hstep
   by_cases hn : a = []
   ·subst hn
    simp only [qqg, qm1, qco, q9, qbb]
    repeat' (first | refine vs_ ?_ | ((first | refine vr_ ?_ | fail) <;> (try simp (disch := first | omega | (simp only [List.length_set, List.length_append, List.length_cons, List.length_nil]; done) | (simp only [List.length_set, List.length_append, List.length_cons, List.length_nil]; omega)) only [qn, qb, qdd, qbf, go_sem, ↓reduceIte])) | ((first | simp (disch := omega) only [qn] | simp (disch := omega) only [rowA] | (refine cs_ ?_ ?_ <;> intro hc) | refine cj_ ?_ | simp (disch := omega) only [encs_getN, qb] | refine qa f fun _ => ?_ | refine qc f ?_) <;> (try refine ev_ ?_)) | with_reducible exact ti_)
    ·refine qh 1 [] ⟨by omega, by omega⟩ rfl (by simp) ?_ ?_ ?_ <;> simp only [rtS2, qbjv, qbb8, hstep] <;> (try refine ev_ ?_) <;> (try with_reducible exact ti_) <;> (try simp (disch := omega) only [qb, and_true, true_and])
     all_goals first | rfl | (rw [qh8])
    ·omega
   ·have hne := qfs hn
    simp only [qqg, qm1, qbo hne, qbn hne, q6]
    repeat' (first | refine vs_ ?_ | ((first | refine vr_ ?_ | fail) <;> (try simp (disch := first | omega | (simp only [List.length_set, List.length_append, List.length_cons, List.length_nil]; done) | (simp only [List.length_set, List.length_append, List.length_cons, List.length_nil]; omega)) only [qn, qb, qdd, q6, go_sem, ↓reduceIte])) | ((first | simp (disch := omega) only [qn] | simp (disch := omega) only [rowA] | (refine cs_ ?_ ?_ <;> intro hc) | refine cj_ ?_ | simp (disch := omega) only [encs_getN, qb] | refine qa f fun _ => ?_ | refine qc f ?_) <;> (try refine ev_ ?_)) | with_reducible exact ti_)
    ·refine qh 1 [] ⟨by omega, by omega⟩ (by simp [q58]) (by simp) ?_ ?_ ?_ <;> simp only [rtS2, qbjv, qbb8, hstep] <;> (try refine ev_ ?_) <;> (try with_reducible exact ti_) <;> (try simp (disch := omega) only [qb, and_true, true_and])
     all_goals first | rfl | (rw [qh8])
    ·omega
  ·simp only [q7f a t h0, q7u a h0]
   repeat' (first | refine vs_ ?_ | ((first | refine vr_ ?_ | fail) <;> (try simp (disch := first | omega | (simp only [List.length_set, List.length_append, List.length_cons, List.length_nil]; done) | (simp only [List.length_set, List.length_append, List.length_cons, List.length_nil]; omega)) only [qn, qb, qdd, go_sem, ↓reduceIte])) | ((first | simp (disch := omega) only [qn] | simp (disch := omega) only [rowA] | (refine cs_ ?_ ?_ <;> intro hc) | refine cj_ ?_ | simp (disch := omega) only [encs_getN, qb] | refine qa f fun _ => ?_ | refine qc f ?_) <;> (try refine ev_ ?_)) | with_reducible exact ti_)
   ·refine qh (i + 1) [] ⟨by omega, by omega⟩ rfl (by simp) ?_ ?_ ?_ <;> simp only [rtS2, qbjv, qbb8, hstep] <;> (try refine ev_ ?_) <;> (try with_reducible exact ti_) <;> (try simp (disch := omega) only [qb, and_true, true_and])
   ·omega
 ·have hti : t.take i = t := List.take_of_length_le (by omega)
  by_cases h0 : i = 0
  ·subst h0
   have ht0 : t = [] := List.length_eq_zero_iff.1 (by omega)
   subst ht0
   rw [addR, rowA]
   by_cases hn : a = []
   ·subst hn
    simp only [qqg, qm1, qco, q9, qbb]
    repeat' (first | refine vs_ ?_ | ((first | refine vr_ ?_ | fail) <;> (try simp only [qbf, go_sem, ↓reduceIte])) | ((first | (refine cs_ ?_ ?_ <;> intro hc) | refine cj_ ?_ | simp (disch := omega) only [encs_getN, qb]) <;> (try refine ev_ ?_)) | with_reducible exact ti_)
    ·omega
   ·have hne := qfs hn
    simp only [qqg, qm1, qbo hne, qbn hne, q6]
    repeat' (first | refine vs_ ?_ | ((first | refine vr_ ?_ | fail) <;> (try simp only [q6, go_sem, ↓reduceIte])) | ((first | (refine cs_ ?_ ?_ <;> intro hc) | refine cj_ ?_ | simp (disch := omega) only [encs_getN, qb]) <;> (try refine ev_ ?_)) | with_reducible exact ti_)
    ·omega
  ·simp only [q7f a t h0, q7u a h0, hti, rowA]
   repeat' (first | refine vs_ ?_ | ((first | refine vr_ ?_ | (refine cs_ ?_ ?_ <;> intro hc) | refine cj_ ?_ | simp (disch := omega) only [encs_getN, qb]) <;> (try refine ev_ ?_)) | with_reducible exact ti_)
   ·omega
set_option maxHeartbeats 2000000 in
theorem qvb {s t : List Pr} (hs : okS s) (ht : okS t) (h1 : s.length ≤ 40000) (h2 : t.length ≤ 40000) : ql Tryz.prog 73 [.sl 4 (qt s), .sl 4 (qt t)] (rowA (behR s t)) := by
 refine qf c0da (by simp) (by simp only [go_sem]) (qh2 _ _) fun hw => ?_
 have hml := (qg2 hw.1).1
 have hmt := (qg2 hw.2.1).1
 repeat' (first | refine vs_ ?_ | ((first | refine vr_ ?_ | (refine cs_ ?_ ?_ <;> intro hc) | refine cj_ ?_ | simp (disch := omega) only [encs_getN, qb]) <;> (try refine ev_ ?_)) | with_reducible exact ti_)
 refine qq (S := Nat × List Pr) (fun x => x.1 ≤ s.length ∧ qd9 t x.2 (s.drop x.1) = qd9 t [] s ∧ x.2.length = x.1) (rtS1 s t) (fun x => s.length - x.1) ?_ fun x hx => ?_
 ·refine qh (0, []) [] ⟨Nat.zero_le _, rfl, rfl⟩ rfl (by simp) ?_ ?_ ?_ <;> simp only [rtS1, qco, q9, qbb] <;> (try refine ev_ ?_) <;> (try with_reducible exact ti_) <;> (try simp (disch := omega) only [qb, and_true, true_and])
 ·obtain ⟨i, a⟩ := x
  obtain ⟨hi, ha, hq⟩ := hx
  dsimp only at hi ha hq
  have hcap1 : qb3 1 56 = True := eq_true (capR (by omega))
  have hcap : qb3 (a.length + 1) 56 = True := eq_true (capR (by omega))
  unfold rtS1
  by_cases hlt : i < s.length
  ·have hp := qjs hs _ (qdv hlt)
   have f := qel ht hp.1 hp.2
   rw [qu3 hlt] at ha
   by_cases he : (appR t (s.getD i R0).ty).2 = 0
   ·rw [if_pos he] at ha
    by_cases h0 : a = []
    ·subst h0
     simp only [qco, q9, qbb, List.nil_append] at ha ⊢
     repeat' (first | refine vs_ ?_ | ((first | refine vr_ ?_ | fail) <;> (try simp (disch := first | omega | (simp only [List.length_set, List.length_append, List.length_cons, List.length_nil]; done) | (simp only [List.length_set, List.length_append, List.length_cons, List.length_nil]; omega)) only [qn, qb, qdd, he, qhq, go_sem, ↓reduceIte])) | ((first | simp (disch := omega) only [qn] | simp (disch := omega) only [typA] | simp (disch := omega) only [he] | simp (disch := omega) only [hcap1] | (refine cs_ ?_ ?_ <;> intro hc) | refine cj_ ?_ | simp (disch := omega) only [encs_getN, qb] | refine qa f fun _ => ?_ | refine qc f ?_) <;> (try refine ev_ ?_)) | with_reducible exact ti_)
     ·have hi0 : i = 0 := by rw [← hq]; rfl
      refine qh (i + 1, [⟨(s.getD i R0).v, (appR t (s.getD i R0).ty).1⟩]) [1] ⟨⟨by dsimp only; omega, ha, by simp; omega⟩, by dsimp only; omega⟩ rfl (by simp) ?_ ?_ ?_ <;> simp only [rtS1, ← qyt, qjf, qi3] <;> (try refine ev_ ?_) <;> (try with_reducible exact ti_) <;> (try simp (disch := omega) only [qb, and_true, true_and])
     ·omega
    ·have hne := qfs h0
     simp only [qbo hne, qbn hne, q6]
     repeat' (first | refine vs_ ?_ | ((first | refine vr_ ?_ | fail) <;> (try simp (disch := first | omega | (simp only [List.length_set, List.length_append, List.length_cons, List.length_nil]; done) | (simp only [List.length_set, List.length_append, List.length_cons, List.length_nil]; omega)) only [qn, qb, qdd, he, qhq, q6, go_sem, ↓reduceIte])) | ((first | simp (disch := omega) only [qn] | simp (disch := omega) only [typA] | simp (disch := omega) only [he] | simp (disch := omega) only [hcap] | (refine cs_ ?_ ?_ <;> intro hc) | refine cj_ ?_ | simp (disch := omega) only [encs_getN, qb] | refine qa f fun _ => ?_ | refine qc f ?_) <;> (try refine ev_ ?_)) | with_reducible exact ti_)
     ·refine qh (i + 1, a ++ [⟨(s.getD i R0).v, (appR t (s.getD i R0).ty).1⟩]) [2] ⟨⟨by dsimp only; omega, ha, by simp; omega⟩, by dsimp only; omega⟩ rfl (by simp) ?_ ?_ ?_ <;> simp only [rtS1, ← qhv, qg4, qhp, q6] <;> (try refine ev_ ?_) <;> (try with_reducible exact ti_) <;> (try simp (disch := omega) only [qb, and_true, true_and])
      all_goals (simp only [qhv]; exact ⟨qby _ _, by rw [qg9]⟩)
     ·omega
   ·rw [if_neg he] at ha
    have e : behR s t = ([], (appR t (s.getD i R0).ty).2) := by rw [behR, ← ha, if_neg he]
    rw [e, rowA]
    by_cases h0 : a = []
    ·subst h0
     simp only [qco, q9, qbb]
     repeat' (first | refine vs_ ?_ | ((first | refine vr_ ?_ | fail) <;> (try simp (disch := first | omega | (simp only [List.length_set, List.length_append, List.length_cons, List.length_nil]; done) | (simp only [List.length_set, List.length_append, List.length_cons, List.length_nil]; omega)) only [qn, qb, qdd, he, qbf, go_sem, ↓reduceIte])) | ((first | simp (disch := omega) only [qn] | simp (disch := omega) only [typA] | simp (disch := omega) only [he] | (refine cs_ ?_ ?_ <;> intro hc) | refine cj_ ?_ | simp (disch := omega) only [encs_getN, qb] | refine qa f fun _ => ?_ | refine qc f ?_) <;> (try refine ev_ ?_)) | with_reducible exact ti_)
     ·omega
    ·have hne := qfs h0
     simp only [qbo hne, qbn hne, q6]
     repeat' (first | refine vs_ ?_ | ((first | refine vr_ ?_ | fail) <;> (try simp (disch := first | omega | (simp only [List.length_set, List.length_append, List.length_cons, List.length_nil]; done) | (simp only [List.length_set, List.length_append, List.length_cons, List.length_nil]; omega)) only [qn, qb, qdd, he, q6, qbf, go_sem, ↓reduceIte])) | ((first | simp (disch := omega) only [qn] | simp (disch := omega) only [typA] | simp (disch := omega) only [he] | (refine cs_ ?_ ?_ <;> intro hc) | refine cj_ ?_ | simp (disch := omega) only [encs_getN, qb] | refine qa f fun _ => ?_ | refine qc f ?_) <;> (try refine ev_ ?_)) | with_reducible exact ti_)
     ·rfl
     ·omega
  ·have hthen : qd9 t [] s = (a, 0) := by rw [← ha, List.drop_of_length_le (by omega), qd9]
   have e : behR s t = (addR a t, 0) := by rw [behR, hthen, if_pos rfl]
   rw [e]
   by_cases h0 : a = []
   ·subst h0
    simp only [qco, q9, qbb]
    repeat' (first | refine vs_ ?_ | ((first | refine vr_ ?_ | (refine cs_ ?_ ?_ <;> intro hc) | refine cj_ ?_ | simp (disch := omega) only [encs_getN, qb]) <;> (try refine ev_ ?_)) | with_reducible exact ti_)
    ·omega
    refine qow (qqi (s := s) (t := t) (a := []) (by omega) (qjs ht) h2 hmt) (qq6 [] rfl (by simp) ?_ ?_ ?_) <;> simp only [rtS2, qqg, qm1, qco, q9, qbb] <;> (try refine ev_ ?_) <;> (try with_reducible exact ti_) <;> (try simp (disch := omega) only [qb, and_true, true_and])
   ·have hne := qfs h0
    simp only [qbo hne, qbn hne, q6]
    repeat' (first | refine vs_ ?_ | ((first | refine vr_ ?_ | (refine cs_ ?_ ?_ <;> intro hc) | refine cj_ ?_ | simp (disch := omega) only [encs_getN, qb]) <;> (try refine ev_ ?_)) | with_reducible exact ti_)
    ·omega
    refine qow (qqi (s := s) (t := t) (a := a) (by omega) (qjs ht) h2 hmt) (qq6 [0] rfl (by simp) ?_ ?_ ?_) <;> simp only [rtS2, qqg, qm1, qbo hne, qbn hne, q6] <;> (try refine ev_ ?_) <;> (try with_reducible exact ti_) <;> (try simp (disch := omega) only [qb, and_true, true_and])
end Go.Proofs.YtlahgbhhejkgbaaGreat
