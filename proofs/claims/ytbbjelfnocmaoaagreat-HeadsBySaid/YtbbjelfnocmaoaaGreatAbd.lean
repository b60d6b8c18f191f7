/- Texts of this proof, joined. -/
import Derived.Test.YtbbjelfnocmaoaaGreatAaw

/- the reference's substitutions: New, size, put, Apply -/
set_option maxRecDepth 4000
namespace Go.Proofs.YtbbjelfnocmaoaaGreat
open Go Go.RowKit Go.V
set_option linter.unusedVariables false
set_option linter.unusedSimpArgs false

theorem qmq : ∀ (l s : List Pr) (p : Pr), addR s (l ++ [p]) = (setR (addR s l) p.v p.ty).1
 | [], s, p => rfl
 | x :: l, s, p => by rw [List.cons_append, addR, addR, qmq l]
theorem qqm {s : List Pr} (hs : okR s) : ∀ t, sizR s t ≤ 4096 * szY t := Ty.ind fun t ih => by
 rw [qly, qd6]
 have key : ∀ l : List Ty, (∀ x ∈ l, sizR s x ≤ 4096 * szY x) → qcj s l ≤ 4096 * szYs l := fun l => by
  induction l with
  | nil => intro _; rw [qcj]; omega
  | cons x r ihr =>
    intro h
    rw [qcj, szYs]
    have := h x (by simp)
    have := ihr fun y hy => h y (by simp [hy])
    omega
 have h1 := key t.args ih
 split
 ·cases hl : qbb t.var s with
  | some u => have := qf2 hs hl; simp only; omega
  | none => simp only; omega
 ·omega
theorem qtp (s : List Pr) {l : List Ty} {i : Nat} (h : i < l.length) : qcj s (l.take (i + 1)) = qcj s (l.take i) + sizR s (l.getD i Y0) := by
 have h1 : l.take (i + 1) = l.take i ++ [l.getD i Y0] := by
  rw [List.take_add_one, List.getD_eq_getElem?_getD, List.getElem?_eq_getElem h]; rfl
 rw [h1]
 generalize l.take i = a
 induction a with
 | nil => simp [qcj]
 | cons x a ih => rw [List.cons_append, qcj, qcj, ih]; omega
theorem qpw {s : List Pr} (hs : okR s) : ∀ l, qcj s l ≤ 4096 * szYs l
 | [] => by rw [qcj]; omega
 | x :: r => by rw [qcj, szYs]; have := qqm hs x; have := qpw hs r; omega
theorem qmf {s : List Pr} {v : Int} {u : Ty} (h : qbb v s = some u) : getA s v = .tup [encY u, .bool true] := by rw [getA, h]
theorem qmx {s : List Pr} {v : Int} (h : qbb v s = none) : getA s v = .tup [encY Y0, .bool false] := by rw [getA, h]
theorem qrr {s : List Pr} (hs : okR s) : ∀ t, szY t ≤ 1000000 → qg Tryz.prog 110 [.sl 4 (qbf s), encY t] (.int .i64 (sizR s t)) := by
 refine Ty.ind fun t ih hb => ?_
 refine qc c0cq (by simp) (by simp only [go_sem]) rfl fun hw => ?_
 have hk := qbz hw.2.1
 have hsz := qd6 t
 have f := qja s t.var
 by_cases hc : t.con = []
 ·cases hl : qbb t.var s with
  | some u =>
    have hu := qf2 hs hl
    rw [qmf hl] at f
    have g := qjv u
    rw [qgu u (by omega)] at g
    have e : sizR s t = szY u := by rw [qly, if_pos hc, hl]
    rw [e]
    repeat' (first | refine vs_ ?_ | ((first | refine vr_ ?_ | fail) <;> (try simp only [hc, go_sem, ↓reduceIte])) | ((first | (refine cs_ ?_ ?_ <;> intro hc) | refine cj_ ?_ | simp (disch := omega) only [encs_getN, qb] | refine qa f fun _ => ?_ | refine qa g fun _ => ?_) <;> (try refine ev_ ?_)) | with_reducible exact ti_)
  | none =>
    rw [qmx hl] at f
    have e : sizR s t = 1 := by rw [qly, if_pos hc, hl]
    rw [e]
    repeat' (first | refine vs_ ?_ | ((first | refine vr_ ?_ | fail) <;> (try simp only [hc, go_sem, ↓reduceIte])) | ((first | (refine cs_ ?_ ?_ <;> intro hc) | refine cj_ ?_ | simp (disch := omega) only [encs_getN, qb] | refine qa f fun _ => ?_) <;> (try refine ev_ ?_)) | with_reducible exact ti_)
 ·have ih' : ∀ i, i < t.args.length → qg Tryz.prog 110 [.sl 4 (qbf s), encY (t.args.getD i Y0)] (.int .i64 (sizR s (t.args.getD i Y0))) := fun i hi => ih _ (q6 hi) (by have := qeh (q6 hi); omega)
  have e : sizR s t = 1 + qcj s t.args := by rw [qly, if_neg hc]
  rw [e]
  repeat' (first | refine vs_ ?_ | ((first | refine vr_ ?_ | fail) <;> (try simp only [hc, go_sem, ↓reduceIte])) | ((first | (refine cs_ ?_ ?_ <;> intro hc) | refine cj_ ?_ | simp (disch := omega) only [encs_getN, qb]) <;> (try refine ev_ ?_)) | with_reducible exact ti_)
  refine qm (S := Nat) (fun i => i ≤ t.args.length) (fun i => (⟨[(0, .sl 4 (qbf s)), (3, .ptr 0 0), (7, .int .i64 ((1 + qcj s (t.args.take i) : Nat) : Int)), (8, .int .i64 i)], []⟩, [.blk (yc t)])) (fun i => t.args.length - i) ?_ fun i hi => ?_
  ·refine qi 0 [0] (Nat.zero_le _) rfl (by simp) ?_ ?_ ?_ <;> simp only [List.take_zero, qcj] <;> (try refine ev_ ?_) <;> (try with_reducible exact ti_) <;> (try simp (disch := omega) only [qb, and_true, true_and])
  ·by_cases hlt : i < t.args.length
   ·have h1 := qtp s hlt
    have h2 := qpw hs (t.args.take i)
    have h3 := qng t.args i
    have h4 := qqm hs (t.args.getD i Y0)
    have h5 := qeh (q6 hlt)
    have hwr : IntKind.i64.wrap (((1 + qcj s (t.args.take i) : Nat) : Int) + (sizR s (t.args.getD i Y0) : Int)) = ((1 + qcj s (t.args.take (i + 1)) : Nat) : Int) := by rw [h1, qs (by omega) (by omega)]; omega
    repeat' (first | refine vs_ ?_ | ((first | refine vr_ ?_ | fail) <;> (try simp (disch := first | omega | (simp only [List.length_set, List.length_append, List.length_cons, List.length_nil]; done) | (simp only [List.length_set, List.length_append, List.length_cons, List.length_nil]; omega)) only [qq, qb, hwr, go_sem, ↓reduceIte])) | ((first | simp (disch := omega) only [qq] | simp (disch := omega) only [hwr] | (refine cs_ ?_ ?_ <;> intro hc) | refine cj_ ?_ | simp (disch := omega) only [encs_getN, qb] | refine qa (ih' i hlt) fun _ => ?_) <;> (try refine ev_ ?_)) | with_reducible exact ti_)
    ·refine qi (i + 1) [0] ⟨by omega, by omega⟩ rfl (by simp) ?_ ?_ ?_ <;> (try refine ev_ ?_) <;> (try with_reducible exact ti_) <;> (try simp (disch := omega) only [qb, and_true, true_and])
    ·omega
   ·have hti : t.args.take i = t.args := List.take_of_length_le (by omega)
    rw [hti]
    repeat' (first | refine vs_ ?_ | ((first | refine vr_ ?_ | (refine cs_ ?_ ?_ <;> intro hc) | refine cj_ ?_ | simp (disch := omega) only [encs_getN, qb]) <;> (try refine ev_ ?_)) | with_reducible exact ti_)
    omega
theorem qru (s : List Pr) {l : List Ty} {i : Nat} (h : i < l.length) : ql (qbq s (l.take (i + 1))) = ql (qbq s (l.take i)) ++ [encY (putY s (l.getD i Y0))] := by
 have h1 : l.take (i + 1) = l.take i ++ [l.getD i Y0] := by
  rw [List.take_add_one, List.getD_eq_getElem?_getD, List.getElem?_eq_getElem h]; rfl
 rw [h1, qfz, qfz, List.map_append, qb5, qb5, List.map_append]; rfl
def rpSt (s : List Pr) (t : Ty) (i : Nat) : AF × List Ent :=
 (⟨[(0, .sl 4 (qbf s)), (3, .ptr 0 0), (4, .ptr 1 0), (7, accV 2 (ql (qbq s (t.args.take i)))), (8, .int .i64 i)], []⟩, .blk (yc t) :: .blk [.str [], .int .i64 0, .nils] :: accE 3 (ql (qbq s (t.args.take i))))
set_option maxHeartbeats 1000000 in
theorem quu {s : List Pr} : ∀ t, szY t ≤ 1000000 → qg Tryz.prog 111 [.sl 4 (qbf s), encY t] (encY (putY s t)) := by
 refine Ty.ind fun t ih hb => ?_
 refine qc c0cr (by simp) (by simp only [go_sem]) (qbt 0 _) fun hw => ?_
 have hk := qbz hw.2.1
 have hsz := qd6 t
 have hal := qex t.args
 have f := qja s t.var
 by_cases hc : t.con = []
 ·cases hl : qbb t.var s with
  | some u =>
    rw [qmf hl] at f
    have e : putY s t = u := by rw [qlq, if_pos hc, hl]
    rw [e]
    repeat' (first | refine vs_ ?_ | ((first | refine vr_ ?_ | fail) <;> (try simp only [hc, qbm, go_sem, ↓reduceIte])) | ((first | (refine cs_ ?_ ?_ <;> intro hc) | refine cj_ ?_ | simp (disch := omega) only [encs_getN, qb] | refine qa f fun _ => ?_) <;> (try refine ev_ ?_)) | with_reducible exact ti_)
  | none =>
    rw [qmx hl] at f
    have e : putY s t = t := by rw [qlq, if_pos hc, hl]
    rw [e]
    have hy : AV.agg [.str [], .int .i64 t.var, .sl 3 (ql t.args)] = encY t := by rw [← qbm, hc]
    repeat' (first | refine vs_ ?_ | ((first | refine vr_ ?_ | fail) <;> (try simp only [hc, hy, go_sem, ↓reduceIte])) | ((first | (refine cs_ ?_ ?_ <;> intro hc) | refine cj_ ?_ | simp (disch := omega) only [encs_getN, qb] | refine qa f fun _ => ?_) <;> (try refine ev_ ?_)) | with_reducible exact ti_)
 ·have ih' : ∀ i, i < t.args.length → qg Tryz.prog 111 [.sl 4 (qbf s), encY (t.args.getD i Y0)] (encY (putY s (t.args.getD i Y0))) := fun i hi => ih _ (q6 hi) (by have := qeh (q6 hi); omega)
  have e : putY s t = .mk t.con t.var (qbq s t.args) := by rw [qlq, if_neg hc]
  have hy : AV.agg [.str t.con, .int .i64 t.var, .sl 3 (ql (qbq s t.args))] = encY (.mk t.con t.var (qbq s t.args)) := by rw [encY]
  rw [e]
  repeat' (first | refine vs_ ?_ | ((first | refine vr_ ?_ | fail) <;> (try simp only [hc, go_sem, ↓reduceIte])) | ((first | (refine cs_ ?_ ?_ <;> intro hc) | refine cj_ ?_ | simp (disch := omega) only [encs_getN, qb]) <;> (try refine ev_ ?_)) | with_reducible exact ti_)
  refine qm (S := Nat) (fun i => i ≤ t.args.length) (rpSt s t) (fun i => t.args.length - i) ?_ fun i hi => ?_
  ·refine qi 0 [0, 1] (Nat.zero_le _) rfl (by simp) ?_ ?_ ?_ <;> simp only [rpSt, List.take_zero, qbq, qcd, qx, qy] <;> (try refine ev_ ?_) <;> (try with_reducible exact ti_) <;> (try simp (disch := omega) only [qb, and_true, true_and])
  ·have hlm : (ql (qbq s (t.args.take i))).length = i := by rw [qr, qfv, List.length_take]; omega
   have hcap : qbr (i + 1) 48 = True := eq_true (capY (by omega))
   have hcap1 : qbr 1 48 = True := eq_true (capY (by omega))
   unfold rpSt
   by_cases hlt : i < t.args.length
   ·have hs := qru s hlt
    by_cases h0 : i = 0
    ·subst h0
     simp only [List.take_zero, qbq, qcd, qx, qy, List.nil_append] at hs ⊢
     repeat' (first | refine vs_ ?_ | ((first | refine vr_ ?_ | fail) <;> (try simp (disch := first | omega | (simp only [List.length_set, List.length_append, List.length_cons, List.length_nil]; done) | (simp only [List.length_set, List.length_append, List.length_cons, List.length_nil]; omega)) only [qq, qb, go_sem, ↓reduceIte])) | ((first | simp (disch := omega) only [qq] | simp (disch := omega) only [hcap1] | (refine cs_ ?_ ?_ <;> intro hc) | refine cj_ ?_ | simp (disch := omega) only [encs_getN, qb] | refine qa (ih' 0 hlt) fun _ => ?_) <;> (try refine ev_ ?_)) | with_reducible exact ti_)
     ·refine qi 1 [0, 1, 2] ⟨by omega, by omega⟩ rfl (by simp) ?_ ?_ ?_ <;> simp only [rpSt, hs, qd3, qdx] <;> (try refine ev_ ?_) <;> (try with_reducible exact ti_) <;> (try simp (disch := omega) only [qb, and_true, true_and])
      all_goals (rw [qig])
     ·omega
    ·have hne : ql (qbq s (t.args.take i)) ≠ [] := fun h => h0 (by rw [← hlm, h]; rfl)
     simp only [qb8 hne, qb9 hne, hlm]
     have hlm2 : (qbq s (t.args.take i)).length = i := by rw [qfv, List.length_take]; omega
     repeat' (first | refine vs_ ?_ | ((first | refine vr_ ?_ | fail) <;> (try simp (disch := first | omega | (simp only [List.length_set, List.length_append, List.length_cons, List.length_nil]; done) | (simp only [List.length_set, List.length_append, List.length_cons, List.length_nil]; omega)) only [qq, qb, hlm, hlm2, go_sem, ↓reduceIte])) | ((first | simp (disch := omega) only [qq] | simp (disch := omega) only [hcap] | (refine cs_ ?_ ?_ <;> intro hc) | refine cj_ ?_ | simp (disch := omega) only [encs_getN, qb] | refine qa (ih' i hlt) fun _ => ?_) <;> (try refine ev_ ?_)) | with_reducible exact ti_)
     ·refine qi (i + 1) [0, 1, 3] ⟨by omega, by omega⟩ rfl (by simp) ?_ ?_ ?_ <;> simp only [rpSt, hs, qc1, qc7, hlm] <;> (try refine ev_ ?_) <;> (try with_reducible exact ti_) <;> (try simp (disch := omega) only [qb, and_true, true_and])
      all_goals (rw [← hs]; exact ⟨qby _ _, by rw [qc6]⟩)
     ·omega
   ·have hti : t.args.take i = t.args := List.take_of_length_le (by omega)
    rw [hti] at hlm ⊢
    by_cases h0 : t.args = []
    ·have hp : qbq s t.args = [] := by rw [h0, qbq]
     rw [hp] at hlm hy ⊢
     simp only [qcd, qx, qy] at hy ⊢
     repeat' (first | refine vs_ ?_ | ((first | refine vr_ ?_ | fail) <;> (try simp only [qbe, hy, go_sem, ↓reduceIte])) | ((first | (refine cs_ ?_ ?_ <;> intro hc) | refine cj_ ?_ | simp (disch := omega) only [encs_getN, qb]) <;> (try refine ev_ ?_)) | with_reducible exact ti_)
     ·omega
    ·have hne : ql (qbq s t.args) ≠ [] := fun h => h0 (by have := congrArg List.length h; rw [qr, qfv] at this; exact List.length_eq_zero_iff.1 this)
     simp only [qb8 hne, qb9 hne, hlm]
     repeat' (first | refine vs_ ?_ | ((first | refine vr_ ?_ | fail) <;> (try simp only [hlm, hy, go_sem, ↓reduceIte])) | ((first | (refine cs_ ?_ ?_ <;> intro hc) | refine cj_ ?_ | simp (disch := omega) only [encs_getN, qb]) <;> (try refine ev_ ?_)) | with_reducible exact ti_)
     ·omega
set_option maxRecDepth 4000

theorem qbah {s : List Pr} (hs : okR s) : ∀ t, dpY (putY s t) ≤ dpY t + 100 := Ty.ind fun t ih => by
 rw [qlq]
 split
 ·cases hl : qbb t.var s with
  | some u => have := qf2 hs hl; simp only; omega
  | none => simp only; omega
 ·rw [qn1 t]
  show dpY (.mk _ _ _) ≤ _
  rw [dpY]
  have key : ∀ l : List Ty, (∀ x ∈ l, dpY (putY s x) ≤ dpY x + 100) → dpYs (qbq s l) ≤ dpYs l + 100 := fun l => by
   induction l with
   | nil => intro _; rw [qbq, dpYs]; omega
   | cons x r ihr =>
     intro h
     rw [qbq, dpYs, dpYs]
     have := h x (by simp)
     have := ihr fun y hy => h y (by simp [hy])
     omega
  have := key t.args ih
  omega
theorem qpe {s : List Pr} (hs : okS s) {t : Ty} (h1 : szY t ≤ 20000) (h2 : dpY t ≤ 300) : qg Tryz.prog 89 [.sl 4 (qbf s), encY t] (typA (appR s t)) := by
 refine qc c0cp (by simp) (by simp only [go_sem]) (qus _ _) fun hw => ?_
 have f1 := qfa h1 h2
 cases ht : qv t with
 | false =>
   rw [ht] at f1
   have e : appR s t = (Y0, 1) := by rw [appR, if_neg (by rw [ht]; simp)]
   rw [e, typA]
   repeat' (first | refine vs_ ?_ | ((first | refine vr_ ?_ | fail) <;> (try simp only [qmc, qbe, go_sem, ↓reduceIte])) | ((first | (refine cs_ ?_ ?_ <;> intro hc) | refine cj_ ?_ | fail | refine qa f1 fun _ => ?_) <;> (try refine ev_ ?_)) | with_reducible exact ti_)
 | true =>
   rw [ht] at f1
   have hz := qm3 ht
   have f2 := qrr (qox hs) t (by omega)
   by_cases hb : 4096 < sizR s t
   ·have e : appR s t = (Y0, 2) := by rw [appR, if_pos ht, if_pos hb]
    rw [e, typA]
    repeat' (first | refine vs_ ?_ | ((first | refine vr_ ?_ | fail) <;> (try simp only [qmc, qbe, go_sem, ↓reduceIte])) | ((first | (refine cs_ ?_ ?_ <;> intro hc) | refine cj_ ?_ | fail | refine qa f1 fun _ => ?_ | refine qa f2 fun _ => ?_) <;> (try refine ev_ ?_)) | with_reducible exact ti_)
    omega
   ·have hp := qk0 s t (qcz t (qe9 ht))
    have hd := qbah (qox hs) t
    have f3 := quu (s := s) t (by omega)
    have f4 := qfa (t := putY s t) (by omega) (by omega)
    cases hu : qv (putY s t) with
    | false =>
      rw [hu] at f4
      have e : appR s t = (Y0, 2) := by rw [appR, if_pos ht, if_neg hb, if_neg (by rw [hu]; simp)]
      rw [e, typA]
      repeat' (first | refine vs_ ?_ | ((first | refine vr_ ?_ | fail) <;> (try simp only [qmc, qbe, go_sem, ↓reduceIte])) | ((first | (refine cs_ ?_ ?_ <;> intro hc) | refine cj_ ?_ | fail | refine qa f1 fun _ => ?_ | refine qa f2 fun _ => ?_ | refine qa f3 fun _ => ?_ | refine qa f4 fun _ => ?_) <;> (try refine ev_ ?_)) | with_reducible exact ti_)
    | true =>
      rw [hu] at f4
      have e : appR s t = (putY s t, 0) := by rw [appR, if_pos ht, if_neg hb, if_pos hu]
      rw [e, typA]
      repeat' (first | refine vs_ ?_ | ((first | refine vr_ ?_ | fail) <;> (try simp only [qmc, qbe, go_sem, ↓reduceIte])) | ((first | (refine cs_ ?_ ?_ <;> intro hc) | refine cj_ ?_ | fail | refine qa f1 fun _ => ?_ | refine qa f2 fun _ => ?_ | refine qa f3 fun _ => ?_ | refine qa f4 fun _ => ?_) <;> (try refine ev_ ?_)) | with_reducible exact ti_)
      omega

end Go.Proofs.YtbbjelfnocmaoaaGreat
