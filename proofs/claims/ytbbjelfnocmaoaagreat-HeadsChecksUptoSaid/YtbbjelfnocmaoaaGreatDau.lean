/- Texts of this proof, joined. -/
import Derived.Test.YtbbjelfnocmaoaaGreatDas
import Derived.Test.YtbbjelfnocmaoaaGreatDat
import Derived.Test.YtbbjelfnocmaoaaGreatDam

/- terms: the program's texts -/
set_option maxRecDepth 4000
namespace Go.Proofs.YtbbjelfnocmaoaaGreat
open Go Go.RowKit Go.V
set_option linter.unusedVariables false
set_option linter.unusedSimpArgs false

theorem qn8 {t : Ty} : qg Tryz.prog 77 [hdA t] (.str (qd1 t)) := by
 refine qd c0a (by simp) (by simp only [go_sem]) rfl fun hw => ?_
 have hv : (Lit.int .i64 t.var).wf = true := hw.1.2.1
 by_cases hc0 : t.con = []
 ·by_cases h0 : 0 ≤ t.var
  ·repeat' (first | refine vs_ ?_ | ((first | refine vr_ ?_ | fail) <;> (try simp only [hc0, h0, go_sem, ↓reduceIte])) | ((first | (refine cs_ ?_ ?_ <;> intro hc) | refine cj_ ?_ | simp (disch := omega) only [encs_getN, qb] | refine qa (qht _) fun _ => ?_) <;> (try refine ev_ ?_)) | with_reducible exact ti_)
   rw [qd1, if_pos hc0, if_pos h0]
  ·have hneg := q4l hv (by omega)
   have hd := qq6 (n := -1 - t.var) (by have := qgt hv; simp [Lit.wf, IntKind.min, IntKind.max, IntKind.signed, IntKind.bits]; omega)
   have hm : 1 + (digI (-1 - t.var)).length ≤ maxLen := by unfold maxLen; omega
   repeat' (first | refine vs_ ?_ | ((first | refine vr_ ?_ | fail) <;> (try simp only [hc0, h0, hneg, go_sem, ↓reduceIte])) | ((first | (refine cs_ ?_ ?_ <;> intro hc) | refine cj_ ?_ | simp (disch := omega) only [encs_getN, qb] | refine qa (qgc _) fun _ => ?_) <;> (try refine ev_ ?_)) | with_reducible exact ti_)
   rw [qd1, if_pos hc0, if_neg h0]
 ·repeat' (first | refine vs_ ?_ | ((first | refine vr_ ?_ | fail) <;> (try simp only [hc0, go_sem, ↓reduceIte])) | ((first | (refine cs_ ?_ ?_ <;> intro hc) | refine cj_ ?_ | simp (disch := omega) only [encs_getN, qb]) <;> (try refine ev_ ?_)) | with_reducible exact ti_)
  rw [qd1, if_neg hc0]
abbrev bldE (l : List UInt8) : Ent := .cus (bldR 104 5 l)
theorem qvp {l s : List UInt8} (h : l.length + s.length ≤ Big) : VM Tryz.prog 76 (bldE l) (bldE (l ++ s)) [.ptr 0 0, .str s] (.tup [.int .i64 s.length, .nili]) :=
 qbbv (ρ := Go.Proofs.Tryz.lays156_ren) Go.Proofs.Tryz.bld166 Go.Proofs.Tryz.Builder_Extra_156 h
theorem q2w {l : List UInt8} (h0 : l ≠ []) (h : l.length ≤ Big) : VM Tryz.prog 78 (bldE l) .dead [.ptr 0 0] (.str l) :=
 q04 (ρ := Go.Proofs.Tryz.lays156_ren) Go.Proofs.Tryz.bld169 Go.Proofs.Tryz.Builder_Extra_156 h0 h
theorem qej {a : Ty} {b : Bool} (h : qg Tryz.prog 48 [encY a] (.str (txtY a))) (hl : (txtY a).length + 2 ≤ Big) : qg Tryz.prog 75 [encY a, .bool b] (.str (parW b (txtY a))) := by
 refine qd c0b (by simp) (by simp only [go_sem]) rfl fun hw => ?_
 have h1 : 1 + (txtY a).length ≤ maxLen := ql (by omega)
 have h2 : (txtY a).length + 1 + 1 ≤ maxLen := ql (by omega)
 cases b
 ·repeat' (first | refine vs_ ?_ | ((first | refine vr_ ?_ | refine qa h fun _ => ?_ | (refine cs_ ?_ ?_ <;> intro hc) | refine cj_ ?_ | simp (disch := omega) only [encs_getN, qb]) <;> (try refine ev_ ?_)) | with_reducible exact ti_)
  rfl
 ·repeat' (first | refine vs_ ?_ | ((first | refine vr_ ?_ | refine qa h fun _ => ?_ | (refine cs_ ?_ ?_ <;> intro hc) | refine cj_ ?_ | simp (disch := omega) only [encs_getN, qb]) <;> (try refine ev_ ?_)) | with_reducible exact ti_)
  rfl
theorem qqz {t : Ty} (hv : (Lit.int .i64 t.var).wf = true) : qd1 t ≠ [] := by
 rw [qd1]
 split
 ·split
  ·rw [ltrI, if_neg (by omega)]; split <;> simp
  ·simp
 ·assumption
theorem qs2 : ∀ t, qbn t = true → (txtY t).length ≤ Big → qg Tryz.prog 48 [encY t] (.str (txtY t)) := by
 refine Ty.ind fun t ih hs hl => ?_
 refine qd c0c (by simp) (by simp only [go_sem]) rfl fun hw => ?_
 obtain ⟨hk, _, hv, _⟩ := (qhl t).1 hw.1
 by_cases hca : t.con = arrW
 ·obtain ⟨a, b, hab, sa, sb⟩ := qin hs hca
  have e := qmt hca hab
  have hlen := congrArg List.length e
  simp only [List.length_append, List.length_cons, List.length_nil] at hlen
  have hp := qc1 (decide (a.con = arrW)) (txtY a)
  have iha := ih a (by rw [hab]; simp) sa (by omega)
  have ihb := ih b (by rw [hab]; simp) sb (by omega)
  have ihc := qej (b := decide (a.con = [45, 62])) iha (by omega)
  have e0 : (qj t.args).getD 0 .junk = encY a := by rw [hab]; rfl
  have e1 : (qj t.args).getD 1 .junk = encY b := by rw [hab]; rfl
  have e2 : t.args.length = 2 := by rw [hab]; rfl
  have hca' : t.con = [45, 62] := hca
  have m3 : (parW (decide (a.con = [45, 62])) (txtY a)).length + 4 ≤ maxLen := ql (by have : decide (a.con = arrW) = decide (a.con = [45, 62]) := rfl; rw [this] at hlen; omega)
  have m4 : (parW (decide (a.con = [45, 62])) (txtY a)).length + 4 + (txtY b).length ≤ maxLen := ql (by have : decide (a.con = arrW) = decide (a.con = [45, 62]) := rfl; rw [this] at hlen; omega)
  repeat' (first | refine vs_ ?_ | ((first | refine vr_ ?_ | fail) <;> (try simp only [hca', e0, e1, e2, go_sem, ↓reduceIte])) | ((first | simp (disch := omega) only [e1] | (refine cs_ ?_ ?_ <;> intro hc) | refine cj_ ?_ | simp (disch := omega) only [encs_getN, qb] | refine qa ihc fun _ => ?_ | refine qa ihb fun _ => ?_ | refine qc ihc ?_ | refine qc ihb ?_) <;> (try refine ev_ ?_)) | with_reducible exact ti_)
  rw [e]; rfl
 ·have e := qib hca
  have hca' : ¬ t.con = [45, 62] := hca
  have hlen := congrArg List.length e
  rw [List.length_append] at hlen
  have hnp : 0 < (qd1 t).length := List.length_pos_iff.2 (qqz hv)
  have ihA : ∀ i, i < t.args.length → qg Tryz.prog 75 [encY (t.args.getD i Y0), .bool (decide ((t.args.getD i Y0).args ≠ []))] (.str (parW (decide ((t.args.getD i Y0).args ≠ [])) (txtY (t.args.getD i Y0)))) := fun i hi => by
   have hm := q7 hi
   have h1 := qd0 t.args i hi
   have h2 := congrArg List.length h1
   simp only [List.length_append, List.length_cons] at h2
   have h3 := qcz t.args (i + 1)
   have h4 := qc1 (decide ((t.args.getD i Y0).args ≠ [])) (txtY (t.args.getD i Y0))
   exact qej (ih _ hm (qir hs hm) (by omega)) (by omega)
  have htk : ∀ i, i < t.args.length → (qd1 t ++ argY (t.args.take i)).length + (32 :: parW (decide ((t.args.getD i Y0).args ≠ [])) (txtY (t.args.getD i Y0))).length ≤ Big := fun i hi => by
   have h1 := qd0 t.args i hi
   have h2 := congrArg List.length h1
   simp only [List.length_append, List.length_cons] at h2 ⊢
   have h3 := qcz t.args (i + 1)
   omega
  have w0 : ([] : List UInt8).length + (qd1 t).length ≤ Big := by simp; omega
  repeat' (first | refine vs_ ?_ | ((first | refine vr_ ?_ | fail) <;> (try simp only [hca', go_sem, ↓reduceIte])) | ((first | (refine cs_ ?_ ?_ <;> intro hc) | refine cj_ ?_ | simp (disch := omega) only [encs_getN, qb] | refine qa (qgu _) fun _ => ?_ | refine qa (qn8 (t := t)) fun _ => ?_ | refine qb6 1 (qvp w0) ?_ | refine qc (qgu _) ?_ | refine qc (qn8 (t := t)) ?_) <;> (try refine ev_ ?_)) | with_reducible exact ti_)
  refine qm (S := Nat) (fun i => i ≤ t.args.length) (fun i => (⟨[(3, .ptr 1 0), (32, .sl 3 (qj t.args)), (33, .int .i64 t.args.length), (34, .int .i64 i)], []⟩, [.blk (yc t), bldE (qd1 t ++ argY (t.args.take i))])) (fun i => t.args.length - i) ?_ fun i hi => ?_
  ·refine qh 0 [0, 1] (Nat.zero_le _) rfl (by simp) ?_ ?_ ?_ <;> simp only [List.take_zero, argY, List.append_nil] <;> (try refine ev_ ?_) <;> (try with_reducible exact ti_) <;> (try simp (disch := omega) only [qb, and_true, true_and])
  ·by_cases hlt : i < t.args.length
   ·have hb := htk i hlt
    have hle : decide (0 < ((t.args.getD i Y0).args.length : Int)) = decide ((t.args.getD i Y0).args ≠ []) := by
     refine decide_eq_decide.2 ⟨fun h hn => by rw [hn] at h; simp at h, fun h => ?_⟩
     have := List.length_pos_iff.2 h
     omega
    have m1 : 1 + (parW (decide ((t.args.getD i Y0).args ≠ [])) (txtY (t.args.getD i Y0))).length ≤ maxLen := ql (by simp only [List.length_append, List.length_cons] at hb; omega)
    repeat' (first | refine vs_ ?_ | ((first | refine vr_ ?_ | fail) <;> (try simp (disch := first | omega | (simp only [List.length_set, List.length_append, List.length_cons, List.length_nil]; done) | (simp only [List.length_set, List.length_append, List.length_cons, List.length_nil]; omega)) only [qs, qb, hle, go_sem, ↓reduceIte])) | ((first | (refine cs_ ?_ ?_ <;> intro hc) | refine cj_ ?_ | simp (disch := omega) only [encs_getN, qb] | refine qa (ihA i hlt) fun _ => ?_ | refine qb6 1 (qvp hb) ?_ | refine qc (ihA i hlt) ?_) <;> (try refine ev_ ?_)) | with_reducible exact ti_)
    ·refine qh (i + 1) [0, 1] ⟨by omega, by omega⟩ rfl (by simp) ?_ ?_ ?_ <;> simp only [qd0 _ _ hlt] <;> (try refine ev_ ?_) <;> (try with_reducible exact ti_) <;> (try simp (disch := omega) only [qb, and_true, true_and])
    ·omega
   ·have hend : qd1 t ++ argY (t.args.take i) = txtY t := by rw [e, List.take_of_length_le (by omega)]
    have hne : txtY t ≠ [] := by rw [e]; exact fun h => qqz hv (List.append_eq_nil_iff.1 h).1
    rw [hend]
    repeat' (first | refine vs_ ?_ | ((first | refine vr_ ?_ | refine qb6 1 (q2w hne hl) ?_ | (refine cs_ ?_ ?_ <;> intro hc) | refine cj_ ?_ | simp (disch := omega) only [encs_getN, qb]) <;> (try refine ev_ ?_)) | with_reducible exact ti_)
    ·omega
def qb4 (t : Ty) : List UInt8 := if qy t = true then txtY t else []
theorem qcm {t : Ty} (h : qy t = true) : qbn t = true := by
 rw [qy, Bool.and_eq_true, Bool.and_eq_true] at h; exact h.2.2
theorem qfe {t : Ty} (h1 : szY t ≤ 20000) (h2 : dpY t ≤ 300) (hl : (qb4 t).length ≤ Big) : qg Tryz.prog 28 [encY t] (.str (qb4 t)) := by
 refine qd c0d (by simp) (by simp only [go_sem]) rfl fun hw => ?_
 have hL := qcp h1 h2
 cases h : qy t with
 | false =>
   have e : qb4 t = [] := by rw [qb4, if_neg (by rw [h]; simp)]
   rw [e]
   rw [h] at hL
   repeat' (first | refine vs_ ?_ | ((first | refine vr_ ?_ | refine qa hL fun _ => ?_ | (refine cs_ ?_ ?_ <;> intro hc) | refine cj_ ?_ | fail) <;> (try refine ev_ ?_)) | with_reducible exact ti_)
 | true =>
   have e : qb4 t = txtY t := by rw [qb4, if_pos h]
   rw [e] at hl ⊢
   rw [h] at hL
   repeat' (first | refine vs_ ?_ | ((first | refine vr_ ?_ | refine qa hL fun _ => ?_ | refine qa (qs2 t (qcm h) hl) fun _ => ?_ | (refine cs_ ?_ ?_ <;> intro hc) | refine cj_ ?_ | fail) <;> (try refine ev_ ?_)) | with_reducible exact ti_)
mutual
def conY : Ty → Nat
 | .mk c _ l => c.length + qei l
def qei : List Ty → Nat
 | [] => 0
 | x :: r => conY x + qei r
end
end Go.Proofs.YtbbjelfnocmaoaaGreat

/- how long the texts of types are -/
namespace Go.Proofs.YtbbjelfnocmaoaaGreat
open Go Go.RowKit Go.V
theorem q4j {t : Ty} (h : (encY t).wf) : -9223372036854775808 ≤ t.var ∧ t.var ≤ 9223372036854775807 := by
 have := ((qhl t).1 h).2.2.1
 simpa [Lit.wf, IntKind.min, IntKind.max, IntKind.signed, IntKind.bits] using this
theorem qr1 : ∀ (l : List Ty), (∀ x ∈ l, (txtY x).length + 3 ≤ conY x + 27 * szY x) → (argY l).length ≤ qei l + 27 * szYs l
 | [], _ => by simp [argY]
 | a :: r, h => by
   have h1 := h a (by simp)
   have h2 := qr1 r fun x hx => h x (by simp [hx])
   have h3 := (qc1 (decide (a.args ≠ [])) (txtY a)).2
   rw [argY, List.length_append, List.length_cons, qei, szYs]
   omega
theorem q9v (t : Ty) : conY t = t.con.length + qei t.args := by cases t; rw [conY]; rfl
theorem q9g (t : Ty) : szY t = 1 + szYs t.args := by cases t; rw [szY]; rfl
theorem q6b : ∀ t : Ty, qbn t = true → (encY t).wf → (txtY t).length + 3 ≤ conY t + 27 * szY t := Ty.ind fun t ih hs hw => by
 have hn := qvo (q4j hw).1 (q4j hw).2
 rw [q9v, q9g]
 by_cases h : t.con = arrW
 ·obtain ⟨a, b, h2, ha, hb⟩ := qin hs h
  have wa := ((qhl t).1 hw).2.2.2
  have i1 := ih a (by simp [h2]) ha (wa a (by simp [h2]))
  have i2 := ih b (by simp [h2]) hb (wa b (by simp [h2]))
  have h3 := (qc1 (decide (a.con = arrW)) (txtY a)).2
  rw [qmt h h2, h2, qei, qei, qei, szYs, szYs, szYs]
  simp only [List.length_append, List.length_cons, List.length_nil]
  omega
 ·have wa := ((qhl t).1 hw).2.2.2
  have := qr1 t.args fun x hx => ih x hx (qir hs hx) (wa x hx)
  rw [qib h, List.length_append]
  omega
end Go.Proofs.YtbbjelfnocmaoaaGreat
