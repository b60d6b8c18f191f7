/- Texts of this proof, joined. -/
import Derived.Test.YtbbjelfnocmaoaaGreatDba

/- the reference's substitutions: New, size, put, Apply -/
set_option maxRecDepth 4000
namespace Go.Proofs.YtbbjelfnocmaoaaGreat
open Go Go.RowKit Go.V
set_option linter.unusedVariables false
set_option linter.unusedSimpArgs false

theorem qov : ∀ (l s : List Pr) (p : Pr), addR s (l ++ [p]) = (setR (addR s l) p.v p.ty).1
 | [], s, p => rfl
 | x :: l, s, p => by rw [List.cons_append, addR, addR, qov l]
theorem qrd {s : List Pr} (hs : okR s) : ∀ t, sizR s t ≤ 4096 * szY t := Ty.ind fun t ih => by
 rw [ql3, qfh]
 have key : ∀ l : List Ty, (∀ x ∈ l, sizR s x ≤ 4096 * szY x) → qck s l ≤ 4096 * szYs l := fun l => by
  induction l with
  | nil => intro _; rw [qck]; omega
  | cons x r ihr =>
    intro h
    rw [qck, szYs]
    have := h x (by simp)
    have := ihr fun y hy => h y (by simp [hy])
    omega
 have h1 := key t.args ih
 split
 ·cases hl : qbd t.var s with
  | some u => have := qgb hs hl; simp only; omega
  | none => simp only; omega
 ·omega
theorem qt2 (s : List Pr) {l : List Ty} {i : Nat} (h : i < l.length) : qck s (l.take (i + 1)) = qck s (l.take i) + sizR s (l.getD i Y0) := by
 have h1 : l.take (i + 1) = l.take i ++ [l.getD i Y0] := by
  rw [List.take_add_one, List.getD_eq_getElem?_getD, List.getElem?_eq_getElem h]; rfl
 rw [h1]
 generalize l.take i = a
 induction a with
 | nil => simp [qck]
 | cons x a ih => rw [List.cons_append, qck, qck, ih]; omega
theorem qrf {s : List Pr} (hs : okR s) : ∀ l, qck s l ≤ 4096 * szYs l
 | [] => by rw [qck]; omega
 | x :: r => by rw [qck, szYs]; have := qrd hs x; have := qrf hs r; omega
theorem qm3 {s : List Pr} {v : Int} {u : Ty} (h : qbd v s = some u) : getA s v = .tup [encY u, .bool true] := by rw [getA, h]
theorem qm9 {s : List Pr} {v : Int} (h : qbd v s = none) : getA s v = .tup [encY Y0, .bool false] := by rw [getA, h]
theorem qsf {s : List Pr} (hs : okR s) : ∀ t, szY t ≤ 1000000 → qg Tryz.prog 110 [.sl 4 (qbt s), encY t] (.int .i64 (sizR s t)) := by
 refine Ty.ind fun t ih hb => ?_
 refine qd c0cw (by simp) (by simp only [go_sem]) rfl fun hw => ?_
 have hk := qcc hw.2.1
 have hsz := qfh t
 have f := qot s t.var
 by_cases hc : t.con = []
 ·cases hl : qbd t.var s with
  | some u =>
    have hu := qgb hs hl
    rw [qm3 hl] at f
    have g := qkl u
    rw [qhd u (by omega)] at g
    have e : sizR s t = szY u := by rw [ql3, if_pos hc, hl]
    rw [e]
    repeat' (first | refine vs_ ?_ | ((first | refine vr_ ?_ | fail) <;> (try simp only [hc, go_sem, ↓reduceIte])) | ((first | (refine cs_ ?_ ?_ <;> intro hc) | refine cj_ ?_ | simp (disch := omega) only [encs_getN, qb] | refine qa f fun _ => ?_ | refine qa g fun _ => ?_) <;> (try refine ev_ ?_)) | with_reducible exact ti_)
  | none =>
    rw [qm9 hl] at f
    have e : sizR s t = 1 := by rw [ql3, if_pos hc, hl]
    rw [e]
    repeat' (first | refine vs_ ?_ | ((first | refine vr_ ?_ | fail) <;> (try simp only [hc, go_sem, ↓reduceIte])) | ((first | (refine cs_ ?_ ?_ <;> intro hc) | refine cj_ ?_ | simp (disch := omega) only [encs_getN, qb] | refine qa f fun _ => ?_) <;> (try refine ev_ ?_)) | with_reducible exact ti_)
 ·have ih' : ∀ i, i < t.args.length → qg Tryz.prog 110 [.sl 4 (qbt s), encY (t.args.getD i Y0)] (.int .i64 (sizR s (t.args.getD i Y0))) := fun i hi => ih _ (q7 hi) (by have := qez (q7 hi); omega)
  have e : sizR s t = 1 + qck s t.args := by rw [ql3, if_neg hc]
  rw [e]
  repeat' (first | refine vs_ ?_ | ((first | refine vr_ ?_ | fail) <;> (try simp only [hc, go_sem, ↓reduceIte])) | ((first | (refine cs_ ?_ ?_ <;> intro hc) | refine cj_ ?_ | simp (disch := omega) only [encs_getN, qb]) <;> (try refine ev_ ?_)) | with_reducible exact ti_)
  refine qm (S := Nat) (fun i => i ≤ t.args.length) (fun i => (⟨[(0, .sl 4 (qbt s)), (3, .ptr 0 0), (7, .int .i64 ((1 + qck s (t.args.take i) : Nat) : Int)), (8, .int .i64 i)], []⟩, [.blk (yc t)])) (fun i => t.args.length - i) ?_ fun i hi => ?_
  ·refine qh 0 [0] (Nat.zero_le _) rfl (by simp) ?_ ?_ ?_ <;> simp only [List.take_zero, qck] <;> (try refine ev_ ?_) <;> (try with_reducible exact ti_) <;> (try simp (disch := omega) only [qb, and_true, true_and])
  ·by_cases hlt : i < t.args.length
   ·have h1 := qt2 s hlt
    have h2 := qrf hs (t.args.take i)
    have h3 := qnl t.args i
    have h4 := qrd hs (t.args.getD i Y0)
    have h5 := qez (q7 hlt)
    have hwr : IntKind.i64.wrap (((1 + qck s (t.args.take i) : Nat) : Int) + (sizR s (t.args.getD i Y0) : Int)) = ((1 + qck s (t.args.take (i + 1)) : Nat) : Int) := by rw [h1, qt (by omega) (by omega)]; omega
    repeat' (first | refine vs_ ?_ | ((first | refine vr_ ?_ | fail) <;> (try simp (disch := first | omega | (simp only [List.length_set, List.length_append, List.length_cons, List.length_nil]; done) | (simp only [List.length_set, List.length_append, List.length_cons, List.length_nil]; omega)) only [qs, qb, hwr, go_sem, ↓reduceIte])) | ((first | simp (disch := omega) only [qs] | simp (disch := omega) only [hwr] | (refine cs_ ?_ ?_ <;> intro hc) | refine cj_ ?_ | simp (disch := omega) only [encs_getN, qb] | refine qa (ih' i hlt) fun _ => ?_) <;> (try refine ev_ ?_)) | with_reducible exact ti_)
    ·refine qh (i + 1) [0] ⟨by omega, by omega⟩ rfl (by simp) ?_ ?_ ?_ <;> (try refine ev_ ?_) <;> (try with_reducible exact ti_) <;> (try simp (disch := omega) only [qb, and_true, true_and])
    ·omega
   ·have hti : t.args.take i = t.args := List.take_of_length_le (by omega)
    rw [hti]
    repeat' (first | refine vs_ ?_ | ((first | refine vr_ ?_ | (refine cs_ ?_ ?_ <;> intro hc) | refine cj_ ?_ | simp (disch := omega) only [encs_getN, qb]) <;> (try refine ev_ ?_)) | with_reducible exact ti_)
    omega
theorem qtz (s : List Pr) {l : List Ty} {i : Nat} (h : i < l.length) : qj (qbu s (l.take (i + 1))) = qj (qbu s (l.take i)) ++ [encY (putY s (l.getD i Y0))] := by
 have h1 : l.take (i + 1) = l.take i ++ [l.getD i Y0] := by
  rw [List.take_add_one, List.getD_eq_getElem?_getD, List.getElem?_eq_getElem h]; rfl
 rw [h1, qfy, qfy, List.map_append, qbx, qbx, List.map_append]; rfl
def rpSt (s : List Pr) (t : Ty) (i : Nat) : AF × List Ent :=
 (⟨[(0, .sl 4 (qbt s)), (3, .ptr 0 0), (4, .ptr 1 0), (7, accV 2 (qj (qbu s (t.args.take i)))), (8, .int .i64 i)], []⟩, .blk (yc t) :: .blk [.str [], .int .i64 0, .nils] :: accE 3 (qj (qbu s (t.args.take i))))
set_option maxHeartbeats 1000000 in
theorem qyh {s : List Pr} : ∀ t, szY t ≤ 1000000 → qg Tryz.prog 111 [.sl 4 (qbt s), encY t] (encY (putY s t)) := by
 refine Ty.ind fun t ih hb => ?_
 refine qd c0cx (by simp) (by simp only [go_sem]) (qbp 0 _) fun hw => ?_
 have hk := qcc hw.2.1
 have hsz := qfh t
 have hal := qf4 t.args
 have f := qot s t.var
 by_cases hc : t.con = []
 ·cases hl : qbd t.var s with
  | some u =>
    rw [qm3 hl] at f
    have e : putY s t = u := by rw [qmb, if_pos hc, hl]
    rw [e]
    repeat' (first | refine vs_ ?_ | ((first | refine vr_ ?_ | fail) <;> (try simp only [hc, qbh, go_sem, ↓reduceIte])) | ((first | (refine cs_ ?_ ?_ <;> intro hc) | refine cj_ ?_ | simp (disch := omega) only [encs_getN, qb] | refine qa f fun _ => ?_) <;> (try refine ev_ ?_)) | with_reducible exact ti_)
  | none =>
    rw [qm9 hl] at f
    have e : putY s t = t := by rw [qmb, if_pos hc, hl]
    rw [e]
    have hy : AV.agg [.str [], .int .i64 t.var, .sl 3 (qj t.args)] = encY t := by rw [← qbh, hc]
    repeat' (first | refine vs_ ?_ | ((first | refine vr_ ?_ | fail) <;> (try simp only [hc, hy, go_sem, ↓reduceIte])) | ((first | (refine cs_ ?_ ?_ <;> intro hc) | refine cj_ ?_ | simp (disch := omega) only [encs_getN, qb] | refine qa f fun _ => ?_) <;> (try refine ev_ ?_)) | with_reducible exact ti_)
 ·have ih' : ∀ i, i < t.args.length → qg Tryz.prog 111 [.sl 4 (qbt s), encY (t.args.getD i Y0)] (encY (putY s (t.args.getD i Y0))) := fun i hi => ih _ (q7 hi) (by have := qez (q7 hi); omega)
  have e : putY s t = .mk t.con t.var (qbu s t.args) := by rw [qmb, if_neg hc]
  have hy : AV.agg [.str t.con, .int .i64 t.var, .sl 3 (qj (qbu s t.args))] = encY (.mk t.con t.var (qbu s t.args)) := by rw [encY]
  rw [e]
  repeat' (first | refine vs_ ?_ | ((first | refine vr_ ?_ | fail) <;> (try simp only [hc, go_sem, ↓reduceIte])) | ((first | (refine cs_ ?_ ?_ <;> intro hc) | refine cj_ ?_ | simp (disch := omega) only [encs_getN, qb]) <;> (try refine ev_ ?_)) | with_reducible exact ti_)
  refine qm (S := Nat) (fun i => i ≤ t.args.length) (rpSt s t) (fun i => t.args.length - i) ?_ fun i hi => ?_
  ·refine qh 0 [0, 1] (Nat.zero_le _) rfl (by simp) ?_ ?_ ?_ <;> simp only [rpSt, List.take_zero, qbu, qbq, qx, qw] <;> (try refine ev_ ?_) <;> (try with_reducible exact ti_) <;> (try simp (disch := omega) only [qb, and_true, true_and])
  ·have hlm : (qj (qbu s (t.args.take i))).length = i := by rw [qo, qgs, List.length_take]; omega
   have hcap : qcb (i + 1) 48 = True := eq_true (capY (by omega))
   have hcap1 : qcb 1 48 = True := eq_true (capY (by omega))
   unfold rpSt
   by_cases hlt : i < t.args.length
   ·have hs := qtz s hlt
    by_cases h0 : i = 0
    ·subst h0
     simp only [List.take_zero, qbu, qbq, qx, qw, List.nil_append] at hs ⊢
     repeat' (first | refine vs_ ?_ | ((first | refine vr_ ?_ | fail) <;> (try simp (disch := first | omega | (simp only [List.length_set, List.length_append, List.length_cons, List.length_nil]; done) | (simp only [List.length_set, List.length_append, List.length_cons, List.length_nil]; omega)) only [qs, qb, go_sem, ↓reduceIte])) | ((first | simp (disch := omega) only [qs] | simp (disch := omega) only [hcap1] | (refine cs_ ?_ ?_ <;> intro hc) | refine cj_ ?_ | simp (disch := omega) only [encs_getN, qb] | refine qa (ih' 0 hlt) fun _ => ?_) <;> (try refine ev_ ?_)) | with_reducible exact ti_)
     ·refine qh 1 [0, 1, 2] ⟨by omega, by omega⟩ rfl (by simp) ?_ ?_ ?_ <;> simp only [rpSt, hs, qdh, qdd] <;> (try refine ev_ ?_) <;> (try with_reducible exact ti_) <;> (try simp (disch := omega) only [qb, and_true, true_and])
      all_goals (rw [qmf])
     ·omega
    ·have hne : qj (qbu s (t.args.take i)) ≠ [] := fun h => h0 (by rw [← hlm, h]; rfl)
     simp only [qbw hne, qbv hne, hlm]
     have hlm2 : (qbu s (t.args.take i)).length = i := by rw [qgs, List.length_take]; omega
     repeat' (first | refine vs_ ?_ | ((first | refine vr_ ?_ | fail) <;> (try simp (disch := first | omega | (simp only [List.length_set, List.length_append, List.length_cons, List.length_nil]; done) | (simp only [List.length_set, List.length_append, List.length_cons, List.length_nil]; omega)) only [qs, qb, hlm, hlm2, go_sem, ↓reduceIte])) | ((first | simp (disch := omega) only [qs] | simp (disch := omega) only [hcap] | (refine cs_ ?_ ?_ <;> intro hc) | refine cj_ ?_ | simp (disch := omega) only [encs_getN, qb] | refine qa (ih' i hlt) fun _ => ?_) <;> (try refine ev_ ?_)) | with_reducible exact ti_)
     ·refine qh (i + 1) [0, 1, 3] ⟨by omega, by omega⟩ rfl (by simp) ?_ ?_ ?_ <;> simp only [rpSt, hs, qco, qcs, hlm] <;> (try refine ev_ ?_) <;> (try with_reducible exact ti_) <;> (try simp (disch := omega) only [qb, and_true, true_and])
      all_goals (rw [← hs]; exact ⟨qbr _ _, by rw [qcq]⟩)
     ·omega
   ·have hti : t.args.take i = t.args := List.take_of_length_le (by omega)
    rw [hti] at hlm ⊢
    by_cases h0 : t.args = []
    ·have hp : qbu s t.args = [] := by rw [h0, qbu]
     rw [hp] at hlm hy ⊢
     simp only [qbq, qx, qw] at hy ⊢
     repeat' (first | refine vs_ ?_ | ((first | refine vr_ ?_ | fail) <;> (try simp only [q8, hy, go_sem, ↓reduceIte])) | ((first | (refine cs_ ?_ ?_ <;> intro hc) | refine cj_ ?_ | simp (disch := omega) only [encs_getN, qb]) <;> (try refine ev_ ?_)) | with_reducible exact ti_)
     ·omega
    ·have hne : qj (qbu s t.args) ≠ [] := fun h => h0 (by have := congrArg List.length h; rw [qo, qgs] at this; exact List.length_eq_zero_iff.1 this)
     simp only [qbw hne, qbv hne, hlm]
     repeat' (first | refine vs_ ?_ | ((first | refine vr_ ?_ | fail) <;> (try simp only [hlm, hy, go_sem, ↓reduceIte])) | ((first | (refine cs_ ?_ ?_ <;> intro hc) | refine cj_ ?_ | simp (disch := omega) only [encs_getN, qb]) <;> (try refine ev_ ?_)) | with_reducible exact ti_)
     ·omega
set_option maxRecDepth 4000

theorem qba8 {s : List Pr} (hs : okR s) : ∀ t, dpY (putY s t) ≤ dpY t + 100 := Ty.ind fun t ih => by
 rw [qmb]
 split
 ·cases hl : qbd t.var s with
  | some u => have := qgb hs hl; simp only; omega
  | none => simp only; omega
 ·rw [qqq t]
  show dpY (.mk _ _ _) ≤ _
  rw [dpY]
  have key : ∀ l : List Ty, (∀ x ∈ l, dpY (putY s x) ≤ dpY x + 100) → dpYs (qbu s l) ≤ dpYs l + 100 := fun l => by
   induction l with
   | nil => intro _; rw [qbu, dpYs]; omega
   | cons x r ihr =>
     intro h
     rw [qbu, dpYs, dpYs]
     have := h x (by simp)
     have := ihr fun y hy => h y (by simp [hy])
     omega
  have := key t.args ih
  omega
theorem qo9 {s : List Pr} (hs : okS s) {t : Ty} (h1 : szY t ≤ 20000) (h2 : dpY t ≤ 300) : qg Tryz.prog 89 [.sl 4 (qbt s), encY t] (typA (appR s t)) := by
 refine qd c0cv (by simp) (by simp only [go_sem]) (qx8 _ _) fun hw => ?_
 have f1 := qfp h1 h2
 cases ht : qy t with
 | false =>
   rw [ht] at f1
   have e : appR s t = (Y0, 1) := by rw [appR, if_neg (by rw [ht]; simp)]
   rw [e, typA]
   repeat' (first | refine vs_ ?_ | ((first | refine vr_ ?_ | fail) <;> (try simp only [qns, q8, go_sem, ↓reduceIte])) | ((first | (refine cs_ ?_ ?_ <;> intro hc) | refine cj_ ?_ | fail | refine qa f1 fun _ => ?_) <;> (try refine ev_ ?_)) | with_reducible exact ti_)
 | true =>
   rw [ht] at f1
   have hz := qom ht
   have f2 := qsf (qpr hs) t (by omega)
   by_cases hb : 4096 < sizR s t
   ·have e : appR s t = (Y0, 2) := by rw [appR, if_pos ht, if_pos hb]
    rw [e, typA]
    repeat' (first | refine vs_ ?_ | ((first | refine vr_ ?_ | fail) <;> (try simp only [qns, q8, go_sem, ↓reduceIte])) | ((first | (refine cs_ ?_ ?_ <;> intro hc) | refine cj_ ?_ | fail | refine qa f1 fun _ => ?_ | refine qa f2 fun _ => ?_) <;> (try refine ev_ ?_)) | with_reducible exact ti_)
    omega
   ·have hp := qlt s t (qc7 t (qcm ht))
    have hd := qba8 (qpr hs) t
    have f3 := qyh (s := s) t (by omega)
    have f4 := qfp (t := putY s t) (by omega) (by omega)
    cases hu : qy (putY s t) with
    | false =>
      rw [hu] at f4
      have e : appR s t = (Y0, 2) := by rw [appR, if_pos ht, if_neg hb, if_neg (by rw [hu]; simp)]
      rw [e, typA]
      repeat' (first | refine vs_ ?_ | ((first | refine vr_ ?_ | fail) <;> (try simp only [qns, q8, go_sem, ↓reduceIte])) | ((first | (refine cs_ ?_ ?_ <;> intro hc) | refine cj_ ?_ | fail | refine qa f1 fun _ => ?_ | refine qa f2 fun _ => ?_ | refine qa f3 fun _ => ?_ | refine qa f4 fun _ => ?_) <;> (try refine ev_ ?_)) | with_reducible exact ti_)
    | true =>
      rw [hu] at f4
      have e : appR s t = (putY s t, 0) := by rw [appR, if_pos ht, if_neg hb, if_pos hu]
      rw [e, typA]
      repeat' (first | refine vs_ ?_ | ((first | refine vr_ ?_ | fail) <;> (try simp only [qns, q8, go_sem, ↓reduceIte])) | ((first | (refine cs_ ?_ ?_ <;> intro hc) | refine cj_ ?_ | fail | refine qa f1 fun _ => ?_ | refine qa f2 fun _ => ?_ | refine qa f3 fun _ => ?_ | refine qa f4 fun _ => ?_) <;> (try refine ev_ ?_)) | with_reducible exact ti_)
      omega

end Go.Proofs.YtbbjelfnocmaoaaGreat
