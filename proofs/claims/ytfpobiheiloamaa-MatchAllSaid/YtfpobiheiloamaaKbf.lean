/- Texts of this proof, joined. -/
import Derived.Test.YtfpobiheiloamaaKax

/- the reference's substitutions: New, size, put, Apply -/
set_option maxRecDepth 4000
namespace Go.Proofs.Ytfpobiheiloamaa
open Go Go.RowKit Go.V
set_option linter.unusedVariables false
set_option linter.unusedSimpArgs false

theorem ql4 : ∀ (l s : List Pr) (p : Pr), addR s (l ++ [p]) = (setR (addR s l) p.v p.ty).1
 | [], s, p => rfl
 | x :: l, s, p => by rw [List.cons_append, addR, addR, ql4 l]
theorem qos {s : List Pr} (hs : okR s) : ∀ t, sizR s t ≤ 4096 * szY t := Ty.ind fun t ih => by
 rw [qkb, qdh]
 have key : ∀ l : List Ty, (∀ x ∈ l, sizR s x ≤ 4096 * szY x) → qcp s l ≤ 4096 * szYs l := fun l => by
  induction l with
  | nil => intro _; rw [qcp]; omega
  | cons x r ihr =>
    intro h
    rw [qcp, szYs]
    have := h x (by simp)
    have := ihr fun y hy => h y (by simp [hy])
    omega
 have h1 := key t.args ih
 split
 ·cases hl : qx t.var s with
  | some u => have := qj2 hs hl; simp only; omega
  | none => simp only; omega
 ·omega
theorem qrh (s : List Pr) {l : List Ty} {i : Nat} (h : i < l.length) : qcp s (l.take (i + 1)) = qcp s (l.take i) + sizR s (l.getD i Y0) := by
 have h1 : l.take (i + 1) = l.take i ++ [l.getD i Y0] := by
  rw [List.take_add_one, List.getD_eq_getElem?_getD, List.getElem?_eq_getElem h]; rfl
 rw [h1]
 generalize l.take i = a
 induction a with
 | nil => simp [qcp]
 | cons x a ih => rw [List.cons_append, qcp, qcp, ih]; omega
theorem qou {s : List Pr} (hs : okR s) : ∀ l, qcp s l ≤ 4096 * szYs l
 | [] => by rw [qcp]; omega
 | x :: r => by rw [qcp, szYs]; have := qos hs x; have := qou hs r; omega
theorem qlh {s : List Pr} {v : Int} {u : Ty} (h : qx v s = some u) : getA s v = .tup [encY u, .bool true] := by rw [getA, h]
theorem qlo {s : List Pr} {v : Int} (h : qx v s = none) : getA s v = .tup [encY Y0, .bool false] := by rw [getA, h]
theorem qq2 {s : List Pr} (hs : okR s) : ∀ t, szY t ≤ 1000000 → qj Try.prog 80 [.sl 4 (qr s), encY t] (.int .i64 (sizR s t)) := by
 refine Ty.ind fun t ih hb => ?_
 refine qe c0cq (by simp) (by simp only [go_sem]) rfl fun hw => ?_
 have hk := qbp hw.2.1
 have hsz := qdh t
 have f := qfc s t.var
 by_cases hc : t.con = []
 ·cases hl : qx t.var s with
  | some u =>
    have hu := qj2 hs hl
    rw [qlh hl] at f
    have g := qjw u
    rw [qfz u (by omega)] at g
    have e : sizR s t = szY u := by rw [qkb, if_pos hc, hl]
    rw [e]
    repeat' (first | refine vs_ ?_ | ((first | refine vr_ ?_ | fail) <;> (try simp only [hc, go_sem, ↓reduceIte])) | ((first | (refine cs_ ?_ ?_ <;> intro hc) | refine cj_ ?_ | simp (disch := omega) only [encs_getN, qb] | refine qa f fun _ => ?_ | refine qa g fun _ => ?_) <;> (try refine ev_ ?_)) | with_reducible exact ti_)
  | none =>
    rw [qlo hl] at f
    have e : sizR s t = 1 := by rw [qkb, if_pos hc, hl]
    rw [e]
    repeat' (first | refine vs_ ?_ | ((first | refine vr_ ?_ | fail) <;> (try simp only [hc, go_sem, ↓reduceIte])) | ((first | (refine cs_ ?_ ?_ <;> intro hc) | refine cj_ ?_ | simp (disch := omega) only [encs_getN, qb] | refine qa f fun _ => ?_) <;> (try refine ev_ ?_)) | with_reducible exact ti_)
 ·have ih' : ∀ i, i < t.args.length → qj Try.prog 80 [.sl 4 (qr s), encY (t.args.getD i Y0)] (.int .i64 (sizR s (t.args.getD i Y0))) := fun i hi => ih _ (qt hi) (by have := qd1 (qt hi); omega)
  have e : sizR s t = 1 + qcp s t.args := by rw [qkb, if_neg hc]
  rw [e]
  repeat' (first | refine vs_ ?_ | ((first | refine vr_ ?_ | fail) <;> (try simp only [hc, go_sem, ↓reduceIte])) | ((first | (refine cs_ ?_ ?_ <;> intro hc) | refine cj_ ?_ | simp (disch := omega) only [encs_getN, qb]) <;> (try refine ev_ ?_)) | with_reducible exact ti_)
  refine qs (S := Nat) (fun i => i ≤ t.args.length) (fun i => (⟨[(0, .sl 4 (qr s)), (3, .ptr 0 0), (7, .int .i64 ((1 + qcp s (t.args.take i) : Nat) : Int)), (8, .int .i64 i)], []⟩, [.blk (yc t)])) (fun i => t.args.length - i) ?_ fun i hi => ?_
  ·refine qo 0 [0] (Nat.zero_le _) rfl (by simp) ?_ ?_ ?_ <;> simp only [List.take_zero, qcp] <;> (try refine ev_ ?_) <;> (try with_reducible exact ti_) <;> (try simp (disch := omega) only [qb, and_true, true_and])
  ·by_cases hlt : i < t.args.length
   ·have h1 := qrh s hlt
    have h2 := qou hs (t.args.take i)
    have h3 := qlz t.args i
    have h4 := qos hs (t.args.getD i Y0)
    have h5 := qd1 (qt hlt)
    have hwr : IntKind.i64.wrap (((1 + qcp s (t.args.take i) : Nat) : Int) + (sizR s (t.args.getD i Y0) : Int)) = ((1 + qcp s (t.args.take (i + 1)) : Nat) : Int) := by rw [h1, q6 (by omega) (by omega)]; omega
    repeat' (first | refine vs_ ?_ | ((first | refine vr_ ?_ | fail) <;> (try simp (disch := first | omega | (simp only [List.length_set, List.length_append, List.length_cons, List.length_nil]; done) | (simp only [List.length_set, List.length_append, List.length_cons, List.length_nil]; omega)) only [qn, qb, hwr, go_sem, ↓reduceIte])) | ((first | simp (disch := omega) only [qn] | simp (disch := omega) only [hwr] | (refine cs_ ?_ ?_ <;> intro hc) | refine cj_ ?_ | simp (disch := omega) only [encs_getN, qb] | refine qa (ih' i hlt) fun _ => ?_) <;> (try refine ev_ ?_)) | with_reducible exact ti_)
    ·refine qo (i + 1) [0] ⟨by omega, by omega⟩ rfl (by simp) ?_ ?_ ?_ <;> (try refine ev_ ?_) <;> (try with_reducible exact ti_) <;> (try simp (disch := omega) only [qb, and_true, true_and])
    ·omega
   ·have hti : t.args.take i = t.args := List.take_of_length_le (by omega)
    rw [hti]
    repeat' (first | refine vs_ ?_ | ((first | refine vr_ ?_ | (refine cs_ ?_ ?_ <;> intro hc) | refine cj_ ?_ | simp (disch := omega) only [encs_getN, qb]) <;> (try refine ev_ ?_)) | with_reducible exact ti_)
    omega
theorem qp7 (s : List Pr) {l : List Ty} {i : Nat} (h : i < l.length) : qi (qb4 s (l.take (i + 1))) = qi (qb4 s (l.take i)) ++ [encY (putY s (l.getD i Y0))] := by
 have h1 : l.take (i + 1) = l.take i ++ [l.getD i Y0] := by
  rw [List.take_add_one, List.getD_eq_getElem?_getD, List.getElem?_eq_getElem h]; rfl
 rw [h1, qfn, qfn, List.map_append, qbl, qbl, List.map_append]; rfl
def rpSt (s : List Pr) (t : Ty) (i : Nat) : AF × List Ent :=
 (⟨[(0, .sl 4 (qr s)), (3, .ptr 0 0), (4, .ptr 1 0), (7, accV 2 (qi (qb4 s (t.args.take i)))), (8, .int .i64 i)], []⟩, .blk (yc t) :: .blk [.str [], .int .i64 0, .nils] :: accE 3 (qi (qb4 s (t.args.take i))))
set_option maxHeartbeats 1000000 in
theorem qr9 {s : List Pr} : ∀ t, szY t ≤ 1000000 → qj Try.prog 81 [.sl 4 (qr s), encY t] (encY (putY s t)) := by
 refine Ty.ind fun t ih hb => ?_
 refine qe c0cr (by simp) (by simp only [go_sem]) (qbg 0 _) fun hw => ?_
 have hk := qbp hw.2.1
 have hsz := qdh t
 have hal := qka t.args
 have f := qfc s t.var
 by_cases hc : t.con = []
 ·cases hl : qx t.var s with
  | some u =>
    rw [qlh hl] at f
    have e : putY s t = u := by rw [qkh, if_pos hc, hl]
    rw [e]
    repeat' (first | refine vs_ ?_ | ((first | refine vr_ ?_ | fail) <;> (try simp only [hc, qbh, go_sem, ↓reduceIte])) | ((first | (refine cs_ ?_ ?_ <;> intro hc) | refine cj_ ?_ | simp (disch := omega) only [encs_getN, qb] | refine qa f fun _ => ?_) <;> (try refine ev_ ?_)) | with_reducible exact ti_)
  | none =>
    rw [qlo hl] at f
    have e : putY s t = t := by rw [qkh, if_pos hc, hl]
    rw [e]
    have hy : AV.agg [.str [], .int .i64 t.var, .sl 3 (qi t.args)] = encY t := by rw [← qbh, hc]
    repeat' (first | refine vs_ ?_ | ((first | refine vr_ ?_ | fail) <;> (try simp only [hc, hy, go_sem, ↓reduceIte])) | ((first | (refine cs_ ?_ ?_ <;> intro hc) | refine cj_ ?_ | simp (disch := omega) only [encs_getN, qb] | refine qa f fun _ => ?_) <;> (try refine ev_ ?_)) | with_reducible exact ti_)
 ·have ih' : ∀ i, i < t.args.length → qj Try.prog 81 [.sl 4 (qr s), encY (t.args.getD i Y0)] (encY (putY s (t.args.getD i Y0))) := fun i hi => ih _ (qt hi) (by have := qd1 (qt hi); omega)
  have e : putY s t = .mk t.con t.var (qb4 s t.args) := by rw [qkh, if_neg hc]
  have hy : AV.agg [.str t.con, .int .i64 t.var, .sl 3 (qi (qb4 s t.args))] = encY (.mk t.con t.var (qb4 s t.args)) := by rw [encY]
  rw [e]
  repeat' (first | refine vs_ ?_ | ((first | refine vr_ ?_ | fail) <;> (try simp only [hc, go_sem, ↓reduceIte])) | ((first | (refine cs_ ?_ ?_ <;> intro hc) | refine cj_ ?_ | simp (disch := omega) only [encs_getN, qb]) <;> (try refine ev_ ?_)) | with_reducible exact ti_)
  refine qs (S := Nat) (fun i => i ≤ t.args.length) (rpSt s t) (fun i => t.args.length - i) ?_ fun i hi => ?_
  ·refine qo 0 [0, 1] (Nat.zero_le _) rfl (by simp) ?_ ?_ ?_ <;> simp only [rpSt, List.take_zero, qb4, qhw, qgz, qg4] <;> (try refine ev_ ?_) <;> (try with_reducible exact ti_) <;> (try simp (disch := omega) only [qb, and_true, true_and])
  ·have hlm : (qi (qb4 s (t.args.take i))).length = i := by rw [qbb, qhy, List.length_take]; omega
   have hcap : qc1 (i + 1) 48 = True := eq_true (capY (by omega))
   have hcap1 : qc1 1 48 = True := eq_true (capY (by omega))
   unfold rpSt
   by_cases hlt : i < t.args.length
   ·have hs := qp7 s hlt
    by_cases h0 : i = 0
    ·subst h0
     simp only [List.take_zero, qb4, qhw, qgz, qg4, List.nil_append] at hs ⊢
     repeat' (first | refine vs_ ?_ | ((first | refine vr_ ?_ | fail) <;> (try simp (disch := first | omega | (simp only [List.length_set, List.length_append, List.length_cons, List.length_nil]; done) | (simp only [List.length_set, List.length_append, List.length_cons, List.length_nil]; omega)) only [qn, qb, go_sem, ↓reduceIte])) | ((first | simp (disch := omega) only [qn] | simp (disch := omega) only [hcap1] | (refine cs_ ?_ ?_ <;> intro hc) | refine cj_ ?_ | simp (disch := omega) only [encs_getN, qb] | refine qa (ih' 0 hlt) fun _ => ?_) <;> (try refine ev_ ?_)) | with_reducible exact ti_)
     ·refine qo 1 [0, 1, 2] ⟨by omega, by omega⟩ rfl (by simp) ?_ ?_ ?_ <;> simp only [rpSt, hs, qpg, qo5] <;> (try refine ev_ ?_) <;> (try with_reducible exact ti_) <;> (try simp (disch := omega) only [qb, and_true, true_and])
      all_goals (rw [qkq])
     ·omega
    ·have hne : qi (qb4 s (t.args.take i)) ≠ [] := fun h => h0 (by rw [← hlm, h]; rfl)
     simp only [qm9 hne, qn8 hne, hlm]
     have hlm2 : (qb4 s (t.args.take i)).length = i := by rw [qhy, List.length_take]; omega
     repeat' (first | refine vs_ ?_ | ((first | refine vr_ ?_ | fail) <;> (try simp (disch := first | omega | (simp only [List.length_set, List.length_append, List.length_cons, List.length_nil]; done) | (simp only [List.length_set, List.length_append, List.length_cons, List.length_nil]; omega)) only [qn, qb, hlm, hlm2, go_sem, ↓reduceIte])) | ((first | simp (disch := omega) only [qn] | simp (disch := omega) only [hcap] | (refine cs_ ?_ ?_ <;> intro hc) | refine cj_ ?_ | simp (disch := omega) only [encs_getN, qb] | refine qa (ih' i hlt) fun _ => ?_) <;> (try refine ev_ ?_)) | with_reducible exact ti_)
     ·refine qo (i + 1) [0, 1, 3] ⟨by omega, by omega⟩ rfl (by simp) ?_ ?_ ?_ <;> simp only [rpSt, hs, qlr, qmy, hlm] <;> (try refine ev_ ?_) <;> (try with_reducible exact ti_) <;> (try simp (disch := omega) only [qb, and_true, true_and])
      all_goals (rw [← hs]; exact ⟨qb7 _ _, by rw [qd5]⟩)
     ·omega
   ·have hti : t.args.take i = t.args := List.take_of_length_le (by omega)
    rw [hti] at hlm ⊢
    by_cases h0 : t.args = []
    ·have hp : qb4 s t.args = [] := by rw [h0, qb4]
     rw [hp] at hlm hy ⊢
     simp only [qhw, qgz, qg4] at hy ⊢
     repeat' (first | refine vs_ ?_ | ((first | refine vr_ ?_ | fail) <;> (try simp only [qbw, hy, go_sem, ↓reduceIte])) | ((first | (refine cs_ ?_ ?_ <;> intro hc) | refine cj_ ?_ | simp (disch := omega) only [encs_getN, qb]) <;> (try refine ev_ ?_)) | with_reducible exact ti_)
     ·omega
    ·have hne : qi (qb4 s t.args) ≠ [] := fun h => h0 (by have := congrArg List.length h; rw [qbb, qhy] at this; exact List.length_eq_zero_iff.1 this)
     simp only [qm9 hne, qn8 hne, hlm]
     repeat' (first | refine vs_ ?_ | ((first | refine vr_ ?_ | fail) <;> (try simp only [hlm, hy, go_sem, ↓reduceIte])) | ((first | (refine cs_ ?_ ?_ <;> intro hc) | refine cj_ ?_ | simp (disch := omega) only [encs_getN, qb]) <;> (try refine ev_ ?_)) | with_reducible exact ti_)
     ·omega
set_option maxRecDepth 4000

theorem q2r {s : List Pr} (hs : okR s) : ∀ t, dpY (putY s t) ≤ dpY t + 100 := Ty.ind fun t ih => by
 rw [qkh]
 split
 ·cases hl : qx t.var s with
  | some u => have := qj2 hs hl; simp only; omega
  | none => simp only; omega
 ·rw [qmd t]
  show dpY (.mk _ _ _) ≤ _
  rw [dpY]
  have key : ∀ l : List Ty, (∀ x ∈ l, dpY (putY s x) ≤ dpY x + 100) → dpYs (qb4 s l) ≤ dpYs l + 100 := fun l => by
   induction l with
   | nil => intro _; rw [qb4, dpYs]; omega
   | cons x r ihr =>
     intro h
     rw [qb4, dpYs, dpYs]
     have := h x (by simp)
     have := ihr fun y hy => h y (by simp [hy])
     omega
  have := key t.args ih
  omega
theorem q65 {s : List Pr} (hs : okS s) {t : Ty} (h1 : szY t ≤ 20000) (h2 : dpY t ≤ 300) : qj Try.prog 36 [.sl 4 (qr s), encY t] (typA (appR s t)) := by
 refine qe c0co (by simp) (by simp only [go_sem]) (qba7 _ _) fun hw => ?_
 have f1 := qdb h1 h2
 cases ht : qk t with
 | false =>
   rw [ht] at f1
   have e : appR s t = (Y0, 1) := by rw [appR, if_neg (by rw [ht]; simp)]
   rw [e, typA]
   repeat' (first | refine vs_ ?_ | ((first | refine vr_ ?_ | fail) <;> (try simp only [ql6, qbw, go_sem, ↓reduceIte])) | ((first | (refine cs_ ?_ ?_ <;> intro hc) | refine cj_ ?_ | fail | refine qa f1 fun _ => ?_) <;> (try refine ev_ ?_)) | with_reducible exact ti_)
 | true =>
   rw [ht] at f1
   have hz := qlc ht
   have f2 := qq2 (qtt hs) t (by omega)
   by_cases hb : 4096 < sizR s t
   ·have e : appR s t = (Y0, 2) := by rw [appR, if_pos ht, if_pos hb]
    rw [e, typA]
    repeat' (first | refine vs_ ?_ | ((first | refine vr_ ?_ | fail) <;> (try simp only [ql6, qbw, go_sem, ↓reduceIte])) | ((first | (refine cs_ ?_ ?_ <;> intro hc) | refine cj_ ?_ | fail | refine qa f1 fun _ => ?_ | refine qa f2 fun _ => ?_) <;> (try refine ev_ ?_)) | with_reducible exact ti_)
    omega
   ·have hp := qnx s t (qf4 t (qeq ht))
    have hd := q2r (qtt hs) t
    have f3 := qr9 (s := s) t (by omega)
    have f4 := qdb (t := putY s t) (by omega) (by omega)
    cases hu : qk (putY s t) with
    | false =>
      rw [hu] at f4
      have e : appR s t = (Y0, 2) := by rw [appR, if_pos ht, if_neg hb, if_neg (by rw [hu]; simp)]
      rw [e, typA]
      repeat' (first | refine vs_ ?_ | ((first | refine vr_ ?_ | fail) <;> (try simp only [ql6, qbw, go_sem, ↓reduceIte])) | ((first | (refine cs_ ?_ ?_ <;> intro hc) | refine cj_ ?_ | fail | refine qa f1 fun _ => ?_ | refine qa f2 fun _ => ?_ | refine qa f3 fun _ => ?_ | refine qa f4 fun _ => ?_) <;> (try refine ev_ ?_)) | with_reducible exact ti_)
    | true =>
      rw [hu] at f4
      have e : appR s t = (putY s t, 0) := by rw [appR, if_pos ht, if_neg hb, if_pos hu]
      rw [e, typA]
      repeat' (first | refine vs_ ?_ | ((first | refine vr_ ?_ | fail) <;> (try simp only [ql6, qbw, go_sem, ↓reduceIte])) | ((first | (refine cs_ ?_ ?_ <;> intro hc) | refine cj_ ?_ | fail | refine qa f1 fun _ => ?_ | refine qa f2 fun _ => ?_ | refine qa f3 fun _ => ?_ | refine qa f4 fun _ => ?_) <;> (try refine ev_ ?_)) | with_reducible exact ti_)
      omega
def qoc (a b : Pr) : Bool := decide (a.v = b.v) && qdi a.ty b.ty
theorem qvm (a b : Pr) : qoc a b = true ↔ a = b := by
 rw [qoc, Bool.and_eq_true, decide_eq_true_eq, qpi]
 cases a; cases b; simp
def qe1 : List Pr → List Pr → Bool
 | [], [] => true
 | x :: r, y :: r' => qoc x y && qe1 r r'
 | _, _ => false
theorem qhm : ∀ l m, qe1 l m = true ↔ l = m
 | [], [] => by simp [qe1]
 | [], y :: r => by rw [qe1] <;> simp
 | x :: r, [] => by rw [qe1] <;> simp
 | x :: r, y :: r' => by rw [qe1, Bool.and_eq_true, qvm, qhm r r']; simp
theorem qud {l m : List Pr} (h : l.length ≠ m.length) : qe1 l m = false := by
 cases hh : qe1 l m with
 | false => rfl
 | true => rw [(qhm l m).1 hh] at h; exact absurd rfl h
theorem qf3 {l m : List Pr} {i : Nat} (h : i < l.length) (h' : i < m.length) : qe1 (l.drop i) (m.drop i) = (qoc (l.getD i R0) (m.getD i R0) && qe1 (l.drop (i + 1)) (m.drop (i + 1))) := by
 rw [q66 h, q66 h', qe1]
theorem qri (l m : List Pr) : qj Try.prog 40 [.sl 4 (qr l), .sl 4 (qr m)] (.bool (qe1 l m)) := by
 refine qe c0cp (by simp) (by simp only [go_sem]) rfl fun hw => ?_
 have hl := (qkj hw.1).1
 repeat' (first | refine vs_ ?_ | ((first | refine vr_ ?_ | (refine cs_ ?_ ?_ <;> intro hc) | refine cj_ ?_ | simp (disch := omega) only [encs_getN, qb]) <;> (try refine ev_ ?_)) | with_reducible exact ti_)
 ·rw [qud (by omega)]
 have hlm : l.length = m.length := by omega
 refine qs (S := Nat) (fun i => i ≤ l.length ∧ qe1 (l.drop i) (m.drop i) = qe1 l m) (fun i => (⟨[(0, .sl 4 (qr l)), (1, .sl 4 (qr m)), (5, .int .i64 i)], []⟩, [])) (fun i => l.length - i) ?_ fun i hi => ?_
 ·refine qo 0 [] ⟨Nat.zero_le _, rfl⟩ rfl (by simp) ?_ ?_ ?_ <;> (try refine ev_ ?_) <;> (try with_reducible exact ti_) <;> (try simp (disch := omega) only [qb, and_true, true_and])
 ·obtain ⟨hi, ha⟩ := hi
  repeat' (first | refine vs_ ?_ | ((first | refine vr_ ?_ | fail) <;> (try simp (disch := first | omega | (simp only [List.length_set, List.length_append, List.length_cons, List.length_nil]; done) | (simp only [List.length_set, List.length_append, List.length_cons, List.length_nil]; omega)) only [q9, qb, qoi, go_sem, ↓reduceIte])) | ((first | simp (disch := omega) only [q9] | (refine cs_ ?_ ?_ <;> intro hc) | refine cj_ ?_ | simp (disch := omega) only [encs_getN, qb] | refine qa (qck _ _) fun _ => ?_ | refine qd (qck _ _) ?_) <;> (try refine ev_ ?_)) | with_reducible exact ti_)
  ·rename_i hc
   rw [← ha, qf3 (by omega) (by omega), qoc, decide_eq_false hc]; rfl
  ·rename_i h0 hc
   have h0 : (l.getD i R0).v = (m.getD i R0).v := by assumption
   rw [← ha, qf3 (by omega) (by omega), qoc, decide_eq_true h0, hc]; rfl
  ·rename_i h0 hc
   have h0 : (l.getD i R0).v = (m.getD i R0).v := by assumption
   refine qo (i + 1) [] ⟨⟨by omega, ?_⟩, by omega⟩ rfl (by simp) ?_ ?_ ?_ <;> (try refine ev_ ?_) <;> (try with_reducible exact ti_) <;> (try simp (disch := omega) only [qb, and_true, true_and])
   rw [← ha, qf3 (l := l) (m := m) (i := i) (by omega) (by omega), qoc, decide_eq_true h0, hc]; rfl
  ·rw [← ha, List.drop_of_length_le (by omega), List.drop_of_length_le (by omega)]; rfl
end Go.Proofs.Ytfpobiheiloamaa
