/- Texts of this proof, joined. -/
import Derived.Test.YtlahgbhhejkgbaaGreatKaw

/- the reference's substitutions: New, size, put, Apply -/
set_option maxRecDepth 4000
namespace Go.Proofs.YtlahgbhhejkgbaaGreat
open Go Go.RowKit Go.V
set_option linter.unusedVariables false
set_option linter.unusedSimpArgs false

def q6v (l : List Pr) : Prop := ∀ p ∈ l, szY p.ty ≤ 20000 ∧ dpY p.ty ≤ 300
theorem qjg {s : List Pr} (h : okS s) : q6v s := fun p hp => by have := qmy h p hp; omega
theorem qjx : ∀ (l s : List Pr) (p : Pr), addR s (l ++ [p]) = (setR (addR s l) p.v p.ty).1
 | [], s, p => rfl
 | x :: l, s, p => by rw [List.cons_append, addR, addR, qjx l]
theorem qum {l : List Pr} {i : Nat} (h : i < l.length) : l.take (i + 1) = l.take i ++ [l.getD i R0] := by
 rw [List.take_add_one, List.getD_eq_getElem?_getD, List.getElem?_eq_getElem h]; rfl
theorem qoj {l : List Pr} {i : Nat} (h : i < l.length) (s : List Pr) : addR s (l.take (i + 1)) = (setR (addR s (l.take i)) (l.getD i R0).v (l.getD i R0).ty).1 := by rw [qum h, qjx]
theorem qtp {s : List Pr} (hs : okR s) : ∀ t, sizR s t ≤ 4096 * szY t := Ty.ind fun t ih => by
 rw [qnq, qdx]
 have key : ∀ l : List Ty, (∀ x ∈ l, sizR s x ≤ 4096 * szY x) → qcr s l ≤ 4096 * szYs l := fun l => by
  induction l with
  | nil => intro _; rw [qcr]; omega
  | cons x r ihr =>
    intro h
    rw [qcr, szYs]
    have := h x (by simp)
    have := ihr fun y hy => h y (by simp [hy])
    omega
 have h1 := key t.args ih
 split
 ·cases hl : qk t.var s with
  | some u => have := qgn hs hl; simp only; omega
  | none => simp only; omega
 ·omega
theorem qvj (s : List Pr) {l : List Ty} {i : Nat} (h : i < l.length) : qcr s (l.take (i + 1)) = qcr s (l.take i) + sizR s (l.getD i Y0) := by
 have h1 : l.take (i + 1) = l.take i ++ [l.getD i Y0] := by
  rw [List.take_add_one, List.getD_eq_getElem?_getD, List.getElem?_eq_getElem h]; rfl
 rw [h1]
 generalize l.take i = a
 induction a with
 | nil => simp [qcr]
 | cons x a ih => rw [List.cons_append, qcr, qcr, ih]; omega
theorem qr9 {s : List Pr} (hs : okR s) : ∀ l, qcr s l ≤ 4096 * szYs l
 | [] => by rw [qcr]; omega
 | x :: r => by rw [qcr, szYs]; have := qtp hs x; have := qr9 hs r; omega
theorem qok {s : List Pr} {v : Int} {u : Ty} (h : qk v s = some u) : getA s v = .tup [encY u, .bool true] := by rw [getA, h]
theorem qos {s : List Pr} {v : Int} (h : qk v s = none) : getA s v = .tup [encY Y0, .bool false] := by rw [getA, h]
theorem quy {s : List Pr} (hs : okR s) : ∀ t, szY t ≤ 1000000 → qj Tryz.prog 70 [.sl 4 (qs s), encY t] (.int .i64 (sizR s t)) := by
 refine Ty.ind fun t ih hb => ?_
 refine qg c0db (by simp) (by simp only [go_sem]) rfl fun hw => ?_
 have hk := qcq hw.2.1
 have hsz := qdx t
 have f := qkv s t.var
 by_cases hc : t.con = []
 ·cases hl : qk t.var s with
  | some u =>
    have hu := qgn hs hl
    rw [qok hl] at f
    have g := qhr u
    rw [qfk u (by omega)] at g
    have e : sizR s t = szY u := by rw [qnq, if_pos hc, hl]
    rw [e]
    repeat' (first | refine vs_ ?_ | ((first | refine vr_ ?_ | fail) <;> (try simp only [hc, go_sem, ↓reduceIte])) | ((first | (refine cs_ ?_ ?_ <;> intro hc) | refine cj_ ?_ | simp (disch := omega) only [encs_getN, qb] | refine qa f fun _ => ?_ | refine qa g fun _ => ?_) <;> (try refine ev_ ?_)) | with_reducible exact ti_)
  | none =>
    rw [qos hl] at f
    have e : sizR s t = 1 := by rw [qnq, if_pos hc, hl]
    rw [e]
    repeat' (first | refine vs_ ?_ | ((first | refine vr_ ?_ | fail) <;> (try simp only [hc, go_sem, ↓reduceIte])) | ((first | (refine cs_ ?_ ?_ <;> intro hc) | refine cj_ ?_ | simp (disch := omega) only [encs_getN, qb] | refine qa f fun _ => ?_) <;> (try refine ev_ ?_)) | with_reducible exact ti_)
 ·have ih' : ∀ i, i < t.args.length → qj Tryz.prog 70 [.sl 4 (qs s), encY (t.args.getD i Y0)] (.int .i64 (sizR s (t.args.getD i Y0))) := fun i hi => ih _ (qbb hi) (by have := qer (qbb hi); omega)
  have e : sizR s t = 1 + qcr s t.args := by rw [qnq, if_neg hc]
  rw [e]
  repeat' (first | refine vs_ ?_ | ((first | refine vr_ ?_ | fail) <;> (try simp only [hc, go_sem, ↓reduceIte])) | ((first | (refine cs_ ?_ ?_ <;> intro hc) | refine cj_ ?_ | simp (disch := omega) only [encs_getN, qb]) <;> (try refine ev_ ?_)) | with_reducible exact ti_)
  refine qq (S := Nat) (fun i => i ≤ t.args.length) (fun i => (⟨[(0, .sl 4 (qs s)), (3, .ptr 0 0), (7, .int .i64 ((1 + qcr s (t.args.take i) : Nat) : Int)), (8, .int .i64 i)], []⟩, [.blk (yc t)])) (fun i => t.args.length - i) ?_ fun i hi => ?_
  ·refine qi 0 [0] (Nat.zero_le _) rfl (by simp) ?_ ?_ ?_ <;> simp only [List.take_zero, qcr] <;> (try refine ev_ ?_) <;> (try with_reducible exact ti_) <;> (try simp (disch := omega) only [qb, and_true, true_and])
  ·by_cases hlt : i < t.args.length
   ·have h1 := qvj s hlt
    have h2 := qr9 hs (t.args.take i)
    have h3 := qka t.args i
    have h4 := qtp hs (t.args.getD i Y0)
    have h5 := qer (qbb hlt)
    have hwr : IntKind.i64.wrap (((1 + qcr s (t.args.take i) : Nat) : Int) + (sizR s (t.args.getD i Y0) : Int)) = ((1 + qcr s (t.args.take (i + 1)) : Nat) : Int) := by rw [h1, qw (by omega) (by omega)]; omega
    repeat' (first | refine vs_ ?_ | ((first | refine vr_ ?_ | fail) <;> (try simp (disch := first | omega | (simp only [List.length_set, List.length_append, List.length_cons, List.length_nil]; done) | (simp only [List.length_set, List.length_append, List.length_cons, List.length_nil]; omega)) only [qo, qb, hwr, go_sem, ↓reduceIte])) | ((first | simp (disch := omega) only [qo] | simp (disch := omega) only [hwr] | (refine cs_ ?_ ?_ <;> intro hc) | refine cj_ ?_ | simp (disch := omega) only [encs_getN, qb] | refine qa (ih' i hlt) fun _ => ?_) <;> (try refine ev_ ?_)) | with_reducible exact ti_)
    ·refine qi (i + 1) [0] ⟨by omega, by omega⟩ rfl (by simp) ?_ ?_ ?_ <;> (try refine ev_ ?_) <;> (try with_reducible exact ti_) <;> (try simp (disch := omega) only [qb, and_true, true_and])
    ·omega
   ·have hti : t.args.take i = t.args := List.take_of_length_le (by omega)
    rw [hti]
    repeat' (first | refine vs_ ?_ | ((first | refine vr_ ?_ | (refine cs_ ?_ ?_ <;> intro hc) | refine cj_ ?_ | simp (disch := omega) only [encs_getN, qb]) <;> (try refine ev_ ?_)) | with_reducible exact ti_)
    omega
theorem qub (s : List Pr) {l : List Ty} {i : Nat} (h : i < l.length) : qt (qb0 s (l.take (i + 1))) = qt (qb0 s (l.take i)) ++ [encY (putY s (l.getD i Y0))] := by
 have h1 : l.take (i + 1) = l.take i ++ [l.getD i Y0] := by
  rw [List.take_add_one, List.getD_eq_getElem?_getD, List.getElem?_eq_getElem h]; rfl
 rw [h1, qgu, qgu, List.map_append, qcf, qcf, List.map_append]; rfl
def rpSt (s : List Pr) (t : Ty) (i : Nat) : AF × List Ent :=
 (⟨[(0, .sl 4 (qs s)), (3, .ptr 0 0), (4, .ptr 1 0), (7, accV 2 (qt (qb0 s (t.args.take i)))), (8, .int .i64 i)], []⟩, .blk (yc t) :: .blk [.str [], .int .i64 0, .nils] :: accE 3 (qt (qb0 s (t.args.take i))))
set_option maxHeartbeats 1000000 in
theorem qzl {s : List Pr} : ∀ t, szY t ≤ 1000000 → qj Tryz.prog 71 [.sl 4 (qs s), encY t] (encY (putY s t)) := by
 refine Ty.ind fun t ih hb => ?_
 refine qg c0dc (by simp) (by simp only [go_sem]) (qz 0 _) fun hw => ?_
 have hk := qcq hw.2.1
 have hsz := qdx t
 have hal := qd7 t.args
 have f := qkv s t.var
 by_cases hc : t.con = []
 ·cases hl : qk t.var s with
  | some u =>
    rw [qok hl] at f
    have e : putY s t = u := by rw [qnl, if_pos hc, hl]
    rw [e]
    repeat' (first | refine vs_ ?_ | ((first | refine vr_ ?_ | fail) <;> (try simp only [hc, qb1, go_sem, ↓reduceIte])) | ((first | (refine cs_ ?_ ?_ <;> intro hc) | refine cj_ ?_ | simp (disch := omega) only [encs_getN, qb] | refine qa f fun _ => ?_) <;> (try refine ev_ ?_)) | with_reducible exact ti_)
  | none =>
    rw [qos hl] at f
    have e : putY s t = t := by rw [qnl, if_pos hc, hl]
    rw [e]
    have hy : AV.agg [.str [], .int .i64 t.var, .sl 3 (qt t.args)] = encY t := by rw [← qb1, hc]
    repeat' (first | refine vs_ ?_ | ((first | refine vr_ ?_ | fail) <;> (try simp only [hc, hy, go_sem, ↓reduceIte])) | ((first | (refine cs_ ?_ ?_ <;> intro hc) | refine cj_ ?_ | simp (disch := omega) only [encs_getN, qb] | refine qa f fun _ => ?_) <;> (try refine ev_ ?_)) | with_reducible exact ti_)
 ·have ih' : ∀ i, i < t.args.length → qj Tryz.prog 71 [.sl 4 (qs s), encY (t.args.getD i Y0)] (encY (putY s (t.args.getD i Y0))) := fun i hi => ih _ (qbb hi) (by have := qer (qbb hi); omega)
  have e : putY s t = .mk t.con t.var (qb0 s t.args) := by rw [qnl, if_neg hc]
  have hy : AV.agg [.str t.con, .int .i64 t.var, .sl 3 (qt (qb0 s t.args))] = encY (.mk t.con t.var (qb0 s t.args)) := by rw [encY]
  rw [e]
  repeat' (first | refine vs_ ?_ | ((first | refine vr_ ?_ | fail) <;> (try simp only [hc, go_sem, ↓reduceIte])) | ((first | (refine cs_ ?_ ?_ <;> intro hc) | refine cj_ ?_ | simp (disch := omega) only [encs_getN, qb]) <;> (try refine ev_ ?_)) | with_reducible exact ti_)
  refine qq (S := Nat) (fun i => i ≤ t.args.length) (rpSt s t) (fun i => t.args.length - i) ?_ fun i hi => ?_
  ·refine qi 0 [0, 1] (Nat.zero_le _) rfl (by simp) ?_ ?_ ?_ <;> simp only [rpSt, List.take_zero, qb0, qji, qbg, qbh] <;> (try refine ev_ ?_) <;> (try with_reducible exact ti_) <;> (try simp (disch := omega) only [qb, and_true, true_and])
  ·have hlm : (qt (qb0 s (t.args.take i))).length = i := by rw [qbu, qg7, List.length_take]; omega
   have hcap : qb5 (i + 1) 48 = True := eq_true (capY (by omega))
   have hcap1 : qb5 1 48 = True := eq_true (capY (by omega))
   unfold rpSt
   by_cases hlt : i < t.args.length
   ·have hs := qub s hlt
    by_cases h0 : i = 0
    ·subst h0
     simp only [List.take_zero, qb0, qji, qbg, qbh, List.nil_append] at hs ⊢
     repeat' (first | refine vs_ ?_ | ((first | refine vr_ ?_ | fail) <;> (try simp (disch := first | omega | (simp only [List.length_set, List.length_append, List.length_cons, List.length_nil]; done) | (simp only [List.length_set, List.length_append, List.length_cons, List.length_nil]; omega)) only [qo, qb, go_sem, ↓reduceIte])) | ((first | simp (disch := omega) only [qo] | simp (disch := omega) only [hcap1] | (refine cs_ ?_ ?_ <;> intro hc) | refine cj_ ?_ | simp (disch := omega) only [encs_getN, qb] | refine qa (ih' 0 hlt) fun _ => ?_) <;> (try refine ev_ ?_)) | with_reducible exact ti_)
     ·refine qi 1 [0, 1, 2] ⟨by omega, by omega⟩ rfl (by simp) ?_ ?_ ?_ <;> simp only [rpSt, hs, qmw, qml] <;> (try refine ev_ ?_) <;> (try with_reducible exact ti_) <;> (try simp (disch := omega) only [qb, and_true, true_and])
      all_goals (rw [qh8])
     ·omega
    ·have hne : qt (qb0 s (t.args.take i)) ≠ [] := fun h => h0 (by rw [← hlm, h]; rfl)
     simp only [qbw hne, qbp hne, hlm]
     have hlm2 : (qb0 s (t.args.take i)).length = i := by rw [qg7, List.length_take]; omega
     repeat' (first | refine vs_ ?_ | ((first | refine vr_ ?_ | fail) <;> (try simp (disch := first | omega | (simp only [List.length_set, List.length_append, List.length_cons, List.length_nil]; done) | (simp only [List.length_set, List.length_append, List.length_cons, List.length_nil]; omega)) only [qo, qb, hlm, hlm2, go_sem, ↓reduceIte])) | ((first | simp (disch := omega) only [qo] | simp (disch := omega) only [hcap] | (refine cs_ ?_ ?_ <;> intro hc) | refine cj_ ?_ | simp (disch := omega) only [encs_getN, qb] | refine qa (ih' i hlt) fun _ => ?_) <;> (try refine ev_ ?_)) | with_reducible exact ti_)
     ·refine qi (i + 1) [0, 1, 3] ⟨by omega, by omega⟩ rfl (by simp) ?_ ?_ ?_ <;> simp only [rpSt, hs, qkp, qkb, hlm] <;> (try refine ev_ ?_) <;> (try with_reducible exact ti_) <;> (try simp (disch := omega) only [qb, and_true, true_and])
      all_goals (rw [← hs]; exact ⟨qcl _ _, by rw [qfc]⟩)
     ·omega
   ·have hti : t.args.take i = t.args := List.take_of_length_le (by omega)
    rw [hti] at hlm ⊢
    by_cases h0 : t.args = []
    ·have hp : qb0 s t.args = [] := by rw [h0, qb0]
     rw [hp] at hlm hy ⊢
     simp only [qji, qbg, qbh] at hy ⊢
     repeat' (first | refine vs_ ?_ | ((first | refine vr_ ?_ | fail) <;> (try simp only [qbk, hy, go_sem, ↓reduceIte])) | ((first | (refine cs_ ?_ ?_ <;> intro hc) | refine cj_ ?_ | simp (disch := omega) only [encs_getN, qb]) <;> (try refine ev_ ?_)) | with_reducible exact ti_)
     ·omega
    ·have hne : qt (qb0 s t.args) ≠ [] := fun h => h0 (by have := congrArg List.length h; rw [qbu, qg7] at this; exact List.length_eq_zero_iff.1 this)
     simp only [qbw hne, qbp hne, hlm]
     repeat' (first | refine vs_ ?_ | ((first | refine vr_ ?_ | fail) <;> (try simp only [hlm, hy, go_sem, ↓reduceIte])) | ((first | (refine cs_ ?_ ?_ <;> intro hc) | refine cj_ ?_ | simp (disch := omega) only [encs_getN, qb]) <;> (try refine ev_ ?_)) | with_reducible exact ti_)
     ·omega
set_option maxRecDepth 4000

theorem qbes {s : List Pr} (hs : okR s) : ∀ t, dpY (putY s t) ≤ dpY t + 100 := Ty.ind fun t ih => by
 rw [qnl]
 split
 ·cases hl : qk t.var s with
  | some u => have := qgn hs hl; simp only; omega
  | none => simp only; omega
 ·rw [qsl t]
  show dpY (.mk _ _ _) ≤ _
  rw [dpY]
  have key : ∀ l : List Ty, (∀ x ∈ l, dpY (putY s x) ≤ dpY x + 100) → dpYs (qb0 s l) ≤ dpYs l + 100 := fun l => by
   induction l with
   | nil => intro _; rw [qb0, dpYs]; omega
   | cons x r ihr =>
     intro h
     rw [qb0, dpYs, dpYs]
     have := h x (by simp)
     have := ihr fun y hy => h y (by simp [hy])
     omega
  have := key t.args ih
  omega
theorem qf5 {s : List Pr} (hs : okS s) {t : Ty} (h1 : szY t ≤ 20000) (h2 : dpY t ≤ 300) : qj Tryz.prog 49 [.sl 4 (qs s), encY t] (typA (appR s t)) := by
 refine qg c0cz (by simp) (by simp only [go_sem]) (qnf _ _) fun hw => ?_
 have f1 := qdd h1 h2
 cases ht : qd t with
 | false =>
   rw [ht] at f1
   have e : appR s t = (Y0, 1) := by rw [appR, if_neg (by rw [ht]; simp)]
   rw [e, typA]
   repeat' (first | refine vs_ ?_ | ((first | refine vr_ ?_ | fail) <;> (try simp only [qom, qbk, go_sem, ↓reduceIte])) | ((first | (refine cs_ ?_ ?_ <;> intro hc) | refine cj_ ?_ | fail | refine qa f1 fun _ => ?_) <;> (try refine ev_ ?_)) | with_reducible exact ti_)
 | true =>
   rw [ht] at f1
   have hz := qpa ht
   have f2 := quy (qmy hs) t (by omega)
   by_cases hb : 4096 < sizR s t
   ·have e : appR s t = (Y0, 2) := by rw [appR, if_pos ht, if_pos hb]
    rw [e, typA]
    repeat' (first | refine vs_ ?_ | ((first | refine vr_ ?_ | fail) <;> (try simp only [qom, qbk, go_sem, ↓reduceIte])) | ((first | (refine cs_ ?_ ?_ <;> intro hc) | refine cj_ ?_ | fail | refine qa f1 fun _ => ?_ | refine qa f2 fun _ => ?_) <;> (try refine ev_ ?_)) | with_reducible exact ti_)
    omega
   ·have hp := qmi s t (qcs t (qej ht))
    have hd := qbes (qmy hs) t
    have f3 := qzl (s := s) t (by omega)
    have f4 := qdd (t := putY s t) (by omega) (by omega)
    cases hu : qd (putY s t) with
    | false =>
      rw [hu] at f4
      have e : appR s t = (Y0, 2) := by rw [appR, if_pos ht, if_neg hb, if_neg (by rw [hu]; simp)]
      rw [e, typA]
      repeat' (first | refine vs_ ?_ | ((first | refine vr_ ?_ | fail) <;> (try simp only [qom, qbk, go_sem, ↓reduceIte])) | ((first | (refine cs_ ?_ ?_ <;> intro hc) | refine cj_ ?_ | fail | refine qa f1 fun _ => ?_ | refine qa f2 fun _ => ?_ | refine qa f3 fun _ => ?_ | refine qa f4 fun _ => ?_) <;> (try refine ev_ ?_)) | with_reducible exact ti_)
    | true =>
      rw [hu] at f4
      have e : appR s t = (putY s t, 0) := by rw [appR, if_pos ht, if_neg hb, if_pos hu]
      rw [e, typA]
      repeat' (first | refine vs_ ?_ | ((first | refine vr_ ?_ | fail) <;> (try simp only [qom, qbk, go_sem, ↓reduceIte])) | ((first | (refine cs_ ?_ ?_ <;> intro hc) | refine cj_ ?_ | fail | refine qa f1 fun _ => ?_ | refine qa f2 fun _ => ?_ | refine qa f3 fun _ => ?_ | refine qa f4 fun _ => ?_) <;> (try refine ev_ ?_)) | with_reducible exact ti_)
      omega
def qqe (a b : Pr) : Bool := decide (a.v = b.v) && qm3 a.ty b.ty
theorem qwb (a b : Pr) : qqe a b = true ↔ a = b := by
 rw [qqe, Bool.and_eq_true, decide_eq_true_eq, q1s]
 cases a; cases b; simp
def qhg : List Pr → List Pr → Bool
 | [], [] => true
 | x :: r, y :: r' => qqe x y && qhg r r'
 | _, _ => false
theorem qkr : ∀ l m, qhg l m = true ↔ l = m
 | [], [] => by simp [qhg]
 | [], y :: r => by rw [qhg] <;> simp
 | x :: r, [] => by rw [qhg] <;> simp
 | x :: r, y :: r' => by rw [qhg, Bool.and_eq_true, qwb, qkr r r']; simp
theorem qy6 {l m : List Pr} (h : l.length ≠ m.length) : qhg l m = false := by
 cases hh : qhg l m with
 | false => rfl
 | true => rw [(qkr l m).1 hh] at h; exact absurd rfl h
theorem qh6 {l m : List Pr} {i : Nat} (h : i < l.length) (h' : i < m.length) : qhg (l.drop i) (m.drop i) = (qqe (l.getD i R0) (m.getD i R0) && qhg (l.drop (i + 1)) (m.drop (i + 1))) := by
 rw [qx3 h, qx3 h', qhg]
theorem qu3 (l m : List Pr) : qj Tryz.prog 11 [.sl 4 (qs l), .sl 4 (qs m)] (.bool (qhg l m)) := by
 refine qg c0da (by simp) (by simp only [go_sem]) rfl fun hw => ?_
 have hl := (qg6 hw.1).1
 repeat' (first | refine vs_ ?_ | ((first | refine vr_ ?_ | (refine cs_ ?_ ?_ <;> intro hc) | refine cj_ ?_ | simp (disch := omega) only [encs_getN, qb]) <;> (try refine ev_ ?_)) | with_reducible exact ti_)
 ·rw [qy6 (by omega)]
 have hlm : l.length = m.length := by omega
 refine qq (S := Nat) (fun i => i ≤ l.length ∧ qhg (l.drop i) (m.drop i) = qhg l m) (fun i => (⟨[(0, .sl 4 (qs l)), (1, .sl 4 (qs m)), (5, .int .i64 i)], []⟩, [])) (fun i => l.length - i) ?_ fun i hi => ?_
 ·refine qi 0 [] ⟨Nat.zero_le _, rfl⟩ rfl (by simp) ?_ ?_ ?_ <;> (try refine ev_ ?_) <;> (try with_reducible exact ti_) <;> (try simp (disch := omega) only [qb, and_true, true_and])
 ·obtain ⟨hi, ha⟩ := hi
  repeat' (first | refine vs_ ?_ | ((first | refine vr_ ?_ | fail) <;> (try simp (disch := first | omega | (simp only [List.length_set, List.length_append, List.length_cons, List.length_nil]; done) | (simp only [List.length_set, List.length_append, List.length_cons, List.length_nil]; omega)) only [ql, qb, qc7, go_sem, ↓reduceIte])) | ((first | simp (disch := omega) only [ql] | (refine cs_ ?_ ?_ <;> intro hc) | refine cj_ ?_ | simp (disch := omega) only [encs_getN, qb] | refine qa (qlt _ _) fun _ => ?_ | refine qc (qlt _ _) ?_) <;> (try refine ev_ ?_)) | with_reducible exact ti_)
  ·rename_i hc
   rw [← ha, qh6 (by omega) (by omega), qqe, decide_eq_false hc]; rfl
  ·rename_i h0 hc
   have h0 : (l.getD i R0).v = (m.getD i R0).v := by assumption
   rw [← ha, qh6 (by omega) (by omega), qqe, decide_eq_true h0, hc]; rfl
  ·rename_i h0 hc
   have h0 : (l.getD i R0).v = (m.getD i R0).v := by assumption
   refine qi (i + 1) [] ⟨⟨by omega, ?_⟩, by omega⟩ rfl (by simp) ?_ ?_ ?_ <;> (try refine ev_ ?_) <;> (try with_reducible exact ti_) <;> (try simp (disch := omega) only [qb, and_true, true_and])
   rw [← ha, qh6 (l := l) (m := m) (i := i) (by omega) (by omega), qqe, decide_eq_true h0, hc]; rfl
  ·rw [← ha, List.drop_of_length_le (by omega), List.drop_of_length_le (by omega)]; rfl
set_option maxRecDepth 4000

theorem qu1 {t acc s : List Pr} {i : Nat} (h : i < s.length) : qd4 t acc (s.drop i) = if (appR t (s.getD i R0).ty).2 = 0 then qd4 t (acc ++ [⟨(s.getD i R0).v, (appR t (s.getD i R0).ty).1⟩]) (s.drop (i + 1)) else ([], (appR t (s.getD i R0).ty).2) := by rw [qx3 h, qd4]
def thV (a : List Pr) (t : List Pr) (i : Nat) : AV := if i = 0 then accV 0 (qs a) else .sl 4 (qs (addR a (t.take i)))
theorem qp5 (a t : List Pr) : thV a t 0 = accV 0 (qs a) := rfl
theorem q9g (a t : List Pr) (i : Nat) : thV a t (i + 1) = .sl 4 (qs (addR a (t.take (i + 1)))) := rfl
theorem q60 (a t : List Pr) {i : Nat} (h : i ≠ 0) : thV a t i = .sl 4 (qs (addR a (t.take i))) := if_neg h
def thE (a : List Pr) (i : Nat) : List Ent := if i = 0 then accE 4 (qs a) else []
theorem qmh (a : List Pr) : thE a 0 = accE 4 (qs a) := rfl
theorem qbi0 (a : List Pr) (i : Nat) : thE a (i + 1) = [] := rfl
theorem q68 (a : List Pr) {i : Nat} (h : i ≠ 0) : thE a i = [] := if_neg h
def rtS1 (s t : List Pr) (x : Nat × List Pr) : AF × List Ent := (⟨[(0, .sl 4 (qs s)), (1, .sl 4 (qs t)), (6, accV 0 (qs x.2)), (7, .int .i64 x.1)], []⟩, accE 4 (qs x.2))
def rtS2 (s t a : List Pr) (i : Nat) : AF × List Ent := (⟨[(0, .sl 4 (qs s)), (1, .sl 4 (qs t)), (6, thV a t i), (10, .int .i64 i)], []⟩, thE a i)
set_option maxHeartbeats 2000000 in
theorem qpm {s t a : List Pr} (h1 : a.length ≤ 40000) (ht : q6v t) (h2 : t.length ≤ 40000) (hml : t.length ≤ maxLen) : VI Tryz.prog none 65 0 (.loop qr3) (blq 2 (sq Tryz.prog none 65 0 (k0cy_r18.seq IC.ret)
 (retq 0 [(RV.t 4, Co.sl 4), (RV.t 5, Co.id)] fun H' o => o = VO.val (rowA (addR a t, 0))))) (rtS2 s t a 0).1 (rtS2 s t a 0).2 := by
 refine qq (S := Nat) (fun i => i ≤ t.length) (rtS2 s t a) (fun i => t.length - i) ?_ fun i hi => ?_
 ·by_cases hn : a = []
  ·subst hn
   refine qi 0 [] (Nat.zero_le _) rfl (by simp) ?_ ?_ ?_ <;> simp only [rtS2, qp5, qmh, qcm, qbg, qbh] <;> (try refine ev_ ?_) <;> (try with_reducible exact ti_) <;> (try simp (disch := omega) only [qb, and_true, true_and])
  ·have hne := qfq hn
   refine qi 0 [0] (Nat.zero_le _) (by simp [rtS2, qmh, qbp hne, q31]) (by simp) ?_ ?_ ?_ <;> simp only [rtS2, qp5, qmh, qbw hne, qbp hne, qy] <;> (try refine ev_ ?_) <;> (try with_reducible exact ti_) <;> (try simp (disch := omega) only [qb, and_true, true_and])
 have hlen := qi7 (t.take i) a
 rw [List.length_take] at hlen
 unfold rtS2
 by_cases hlt : i < t.length
 ·have hp := ht _ (qdv hlt)
  have f := qzt (s := addR a (t.take i)) (v := (t.getD i R0).v) (by omega) hp.1 hp.2
  have hstep := qoj hlt a
  by_cases h0 : i = 0
  ·subst h0
   rw [List.take_zero, addR] at f hstep
   by_cases hn : a = []
   ·subst hn
    simp only [qp5, qmh, qcm, qbg, qbh]
    repeat' (first | refine vs_ ?_ | ((first | refine vr_ ?_ | fail) <;> (try simp (disch := first | omega | (simp only [List.length_set, List.length_append, List.length_cons, List.length_nil]; done) | (simp only [List.length_set, List.length_append, List.length_cons, List.length_nil]; omega)) only [ql, qb, qc7, qbk, go_sem, ↓reduceIte])) | ((first | simp (disch := omega) only [ql] | simp (disch := omega) only [rowA] | (refine cs_ ?_ ?_ <;> intro hc) | refine cj_ ?_ | simp (disch := omega) only [encs_getN, qb] | refine qa f fun _ => ?_ | refine qc f ?_) <;> (try refine ev_ ?_)) | with_reducible exact ti_)
    ·refine qi 1 [] ⟨by omega, by omega⟩ rfl (by simp) ?_ ?_ ?_ <;> simp only [rtS2, q9g, qbi0, hstep] <;> (try refine ev_ ?_) <;> (try with_reducible exact ti_) <;> (try simp (disch := omega) only [qb, and_true, true_and])
     all_goals first | rfl | (rw [qh8])
    ·omega
   ·have hne := qfq hn
    simp only [qp5, qmh, qbw hne, qbp hne, qy]
    repeat' (first | refine vs_ ?_ | ((first | refine vr_ ?_ | fail) <;> (try simp (disch := first | omega | (simp only [List.length_set, List.length_append, List.length_cons, List.length_nil]; done) | (simp only [List.length_set, List.length_append, List.length_cons, List.length_nil]; omega)) only [ql, qb, qc7, qy, go_sem, ↓reduceIte])) | ((first | simp (disch := omega) only [ql] | simp (disch := omega) only [rowA] | (refine cs_ ?_ ?_ <;> intro hc) | refine cj_ ?_ | simp (disch := omega) only [encs_getN, qb] | refine qa f fun _ => ?_ | refine qc f ?_) <;> (try refine ev_ ?_)) | with_reducible exact ti_)
    ·refine qi 1 [] ⟨by omega, by omega⟩ (by simp [q31]) (by simp) ?_ ?_ ?_ <;> simp only [rtS2, q9g, qbi0, hstep] <;> (try refine ev_ ?_) <;> (try with_reducible exact ti_) <;> (try simp (disch := omega) only [qb, and_true, true_and])
     all_goals first | rfl | (rw [qh8])
    ·omega
  ·simp only [q60 a t h0, q68 a h0]
   repeat' (first | refine vs_ ?_ | ((first | refine vr_ ?_ | fail) <;> (try simp (disch := first | omega | (simp only [List.length_set, List.length_append, List.length_cons, List.length_nil]; done) | (simp only [List.length_set, List.length_append, List.length_cons, List.length_nil]; omega)) only [ql, qb, qc7, go_sem, ↓reduceIte])) | ((first | simp (disch := omega) only [ql] | simp (disch := omega) only [rowA] | (refine cs_ ?_ ?_ <;> intro hc) | refine cj_ ?_ | simp (disch := omega) only [encs_getN, qb] | refine qa f fun _ => ?_ | refine qc f ?_) <;> (try refine ev_ ?_)) | with_reducible exact ti_)
   ·refine qi (i + 1) [] ⟨by omega, by omega⟩ rfl (by simp) ?_ ?_ ?_ <;> simp only [rtS2, q9g, qbi0, hstep] <;> (try refine ev_ ?_) <;> (try with_reducible exact ti_) <;> (try simp (disch := omega) only [qb, and_true, true_and])
   ·omega
 ·have hti : t.take i = t := List.take_of_length_le (by omega)
  by_cases h0 : i = 0
  ·subst h0
   have ht0 : t = [] := List.length_eq_zero_iff.1 (by omega)
   subst ht0
   rw [addR, rowA]
   by_cases hn : a = []
   ·subst hn
    simp only [qp5, qmh, qcm, qbg, qbh]
    repeat' (first | refine vs_ ?_ | ((first | refine vr_ ?_ | fail) <;> (try simp only [qbk, go_sem, ↓reduceIte])) | ((first | (refine cs_ ?_ ?_ <;> intro hc) | refine cj_ ?_ | simp (disch := omega) only [encs_getN, qb]) <;> (try refine ev_ ?_)) | with_reducible exact ti_)
    ·omega
   ·have hne := qfq hn
    simp only [qp5, qmh, qbw hne, qbp hne, qy]
    repeat' (first | refine vs_ ?_ | ((first | refine vr_ ?_ | fail) <;> (try simp only [qy, go_sem, ↓reduceIte])) | ((first | (refine cs_ ?_ ?_ <;> intro hc) | refine cj_ ?_ | simp (disch := omega) only [encs_getN, qb]) <;> (try refine ev_ ?_)) | with_reducible exact ti_)
    ·omega
  ·simp only [q60 a t h0, q68 a h0, hti, rowA]
   repeat' (first | refine vs_ ?_ | ((first | refine vr_ ?_ | (refine cs_ ?_ ?_ <;> intro hc) | refine cj_ ?_ | simp (disch := omega) only [encs_getN, qb]) <;> (try refine ev_ ?_)) | with_reducible exact ti_)
   ·omega
set_option maxHeartbeats 2000000 in
theorem qt3 {s t : List Pr} (hs : okS s) (ht : okS t) (h1 : s.length ≤ 40000) (h2 : t.length ≤ 40000) : qj Tryz.prog 73 [.sl 4 (qs s), .sl 4 (qs t)] (rowA (behR s t)) := by
 refine qg c0cy (by simp) (by simp only [go_sem]) (qkl _ _) fun hw => ?_
 have hml := (qg6 hw.1).1
 have hmt := (qg6 hw.2.1).1
 repeat' (first | refine vs_ ?_ | ((first | refine vr_ ?_ | (refine cs_ ?_ ?_ <;> intro hc) | refine cj_ ?_ | simp (disch := omega) only [encs_getN, qb]) <;> (try refine ev_ ?_)) | with_reducible exact ti_)
 refine qq (S := Nat × List Pr) (fun x => x.1 ≤ s.length ∧ qd4 t x.2 (s.drop x.1) = qd4 t [] s ∧ x.2.length = x.1) (rtS1 s t) (fun x => s.length - x.1) ?_ fun x hx => ?_
 ·refine qi (0, []) [] ⟨Nat.zero_le _, rfl, rfl⟩ rfl (by simp) ?_ ?_ ?_ <;> simp only [rtS1, qcm, qbg, qbh] <;> (try refine ev_ ?_) <;> (try with_reducible exact ti_) <;> (try simp (disch := omega) only [qb, and_true, true_and])
 ·obtain ⟨i, a⟩ := x
  obtain ⟨hi, ha, hq⟩ := hx
  dsimp only at hi ha hq
  have hcap1 : qb5 1 56 = True := eq_true (capR (by omega))
  have hcap : qb5 (a.length + 1) 56 = True := eq_true (capR (by omega))
  unfold rtS1
  by_cases hlt : i < s.length
  ·have hp := qjg hs _ (qdv hlt)
   have f := qf5 ht hp.1 hp.2
   rw [qu1 hlt] at ha
   by_cases he : (appR t (s.getD i R0).ty).2 = 0
   ·rw [if_pos he] at ha
    by_cases h0 : a = []
    ·subst h0
     simp only [qcm, qbg, qbh, List.nil_append] at ha ⊢
     repeat' (first | refine vs_ ?_ | ((first | refine vr_ ?_ | fail) <;> (try simp (disch := first | omega | (simp only [List.length_set, List.length_append, List.length_cons, List.length_nil]; done) | (simp only [List.length_set, List.length_append, List.length_cons, List.length_nil]; omega)) only [ql, qb, qc7, he, qhh, go_sem, ↓reduceIte])) | ((first | simp (disch := omega) only [ql] | simp (disch := omega) only [typA] | simp (disch := omega) only [he] | simp (disch := omega) only [hcap1] | (refine cs_ ?_ ?_ <;> intro hc) | refine cj_ ?_ | simp (disch := omega) only [encs_getN, qb] | refine qa f fun _ => ?_ | refine qc f ?_) <;> (try refine ev_ ?_)) | with_reducible exact ti_)
     ·have hi0 : i = 0 := by rw [← hq]; rfl
      refine qi (i + 1, [⟨(s.getD i R0).v, (appR t (s.getD i R0).ty).1⟩]) [1] ⟨⟨by dsimp only; omega, ha, by simp; omega⟩, by dsimp only; omega⟩ rfl (by simp) ?_ ?_ ?_ <;> simp only [rtS1, ← q0d, qmw, qml] <;> (try refine ev_ ?_) <;> (try with_reducible exact ti_) <;> (try simp (disch := omega) only [qb, and_true, true_and])
     ·omega
    ·have hne := qfq h0
     simp only [qbw hne, qbp hne, qy]
     repeat' (first | refine vs_ ?_ | ((first | refine vr_ ?_ | fail) <;> (try simp (disch := first | omega | (simp only [List.length_set, List.length_append, List.length_cons, List.length_nil]; done) | (simp only [List.length_set, List.length_append, List.length_cons, List.length_nil]; omega)) only [ql, qb, qc7, he, qhh, qy, go_sem, ↓reduceIte])) | ((first | simp (disch := omega) only [ql] | simp (disch := omega) only [typA] | simp (disch := omega) only [he] | simp (disch := omega) only [hcap] | (refine cs_ ?_ ?_ <;> intro hc) | refine cj_ ?_ | simp (disch := omega) only [encs_getN, qb] | refine qa f fun _ => ?_ | refine qc f ?_) <;> (try refine ev_ ?_)) | with_reducible exact ti_)
     ·refine qi (i + 1, a ++ [⟨(s.getD i R0).v, (appR t (s.getD i R0).ty).1⟩]) [2] ⟨⟨by dsimp only; omega, ha, by simp; omega⟩, by dsimp only; omega⟩ rfl (by simp) ?_ ?_ ?_ <;> simp only [rtS1, ← qhv, qkp, qkb, qy] <;> (try refine ev_ ?_) <;> (try with_reducible exact ti_) <;> (try simp (disch := omega) only [qb, and_true, true_and])
      all_goals (simp only [qhv]; exact ⟨qbz _ _, by rw [qg2]⟩)
     ·omega
   ·rw [if_neg he] at ha
    have e : behR s t = ([], (appR t (s.getD i R0).ty).2) := by rw [behR, ← ha, if_neg he]
    rw [e, rowA]
    by_cases h0 : a = []
    ·subst h0
     simp only [qcm, qbg, qbh]
     repeat' (first | refine vs_ ?_ | ((first | refine vr_ ?_ | fail) <;> (try simp (disch := first | omega | (simp only [List.length_set, List.length_append, List.length_cons, List.length_nil]; done) | (simp only [List.length_set, List.length_append, List.length_cons, List.length_nil]; omega)) only [ql, qb, qc7, he, qbk, go_sem, ↓reduceIte])) | ((first | simp (disch := omega) only [ql] | simp (disch := omega) only [typA] | simp (disch := omega) only [he] | (refine cs_ ?_ ?_ <;> intro hc) | refine cj_ ?_ | simp (disch := omega) only [encs_getN, qb] | refine qa f fun _ => ?_ | refine qc f ?_) <;> (try refine ev_ ?_)) | with_reducible exact ti_)
     ·omega
    ·have hne := qfq h0
     simp only [qbw hne, qbp hne, qy]
     repeat' (first | refine vs_ ?_ | ((first | refine vr_ ?_ | fail) <;> (try simp (disch := first | omega | (simp only [List.length_set, List.length_append, List.length_cons, List.length_nil]; done) | (simp only [List.length_set, List.length_append, List.length_cons, List.length_nil]; omega)) only [ql, qb, qc7, he, qy, qbk, go_sem, ↓reduceIte])) | ((first | simp (disch := omega) only [ql] | simp (disch := omega) only [typA] | simp (disch := omega) only [he] | (refine cs_ ?_ ?_ <;> intro hc) | refine cj_ ?_ | simp (disch := omega) only [encs_getN, qb] | refine qa f fun _ => ?_ | refine qc f ?_) <;> (try refine ev_ ?_)) | with_reducible exact ti_)
     ·rfl
     ·omega
  ·have hthen : qd4 t [] s = (a, 0) := by rw [← ha, List.drop_of_length_le (by omega), qd4]
   have e : behR s t = (addR a t, 0) := by rw [behR, hthen, if_pos rfl]
   rw [e]
   by_cases h0 : a = []
   ·subst h0
    simp only [qcm, qbg, qbh]
    repeat' (first | refine vs_ ?_ | ((first | refine vr_ ?_ | (refine cs_ ?_ ?_ <;> intro hc) | refine cj_ ?_ | simp (disch := omega) only [encs_getN, qb]) <;> (try refine ev_ ?_)) | with_reducible exact ti_)
    ·omega
    refine qod (qpm (s := s) (t := t) (a := []) (by omega) (qjg ht) h2 hmt) (qqk [] rfl (by simp) ?_ ?_ ?_) <;> simp only [rtS2, qp5, qmh, qcm, qbg, qbh] <;> (try refine ev_ ?_) <;> (try with_reducible exact ti_) <;> (try simp (disch := omega) only [qb, and_true, true_and])
   ·have hne := qfq h0
    simp only [qbw hne, qbp hne, qy]
    repeat' (first | refine vs_ ?_ | ((first | refine vr_ ?_ | (refine cs_ ?_ ?_ <;> intro hc) | refine cj_ ?_ | simp (disch := omega) only [encs_getN, qb]) <;> (try refine ev_ ?_)) | with_reducible exact ti_)
    ·omega
    refine qod (qpm (s := s) (t := t) (a := a) (by omega) (qjg ht) h2 hmt) (qqk [0] rfl (by simp) ?_ ?_ ?_) <;> simp only [rtS2, qp5, qmh, qbw hne, qbp hne, qy] <;> (try refine ev_ ?_) <;> (try with_reducible exact ti_) <;> (try simp (disch := omega) only [qb, and_true, true_and])
end Go.Proofs.YtlahgbhhejkgbaaGreat
