/- Texts of this proof, joined. -/
import Derived.Test.YtfpobiheiloamaaOap
import Derived.Test.YtfpobiheiloamaaOaq
import Derived.Test.YtfpobiheiloamaaOak

/- terms: the program's texts -/
set_option maxRecDepth 4000
namespace Go.Proofs.Ytfpobiheiloamaa
open Go Go.RowKit Go.V
set_option linter.unusedVariables false
set_option linter.unusedSimpArgs false

theorem qj8 {t : Ty} : ql Try.prog 130 [hdA t] (.str (qby t)) := by
 refine qe c0a (by simp) (by simp only [go_sem]) rfl fun hw => ?_
 have hv : (Lit.int .i64 t.var).wf = true := hw.1.2.1
 by_cases hc0 : t.con = []
 ·by_cases h0 : 0 ≤ t.var
  ·repeat' (first | refine vs_ ?_ | ((first | refine vr_ ?_ | fail) <;> (try simp only [hc0, h0, go_sem, ↓reduceIte])) | ((first | (refine cs_ ?_ ?_ <;> intro hc) | refine cj_ ?_ | simp (disch := omega) only [encs_getN, qb] | refine qa (qko _) fun _ => ?_) <;> (try refine ev_ ?_)) | with_reducible exact ti_)
   rw [qby, if_pos hc0, if_pos h0]
  ·have hneg := q9y hv (by omega)
   have hd := qu8 (n := -1 - t.var) (by have := qhk hv; simp [Lit.wf, IntKind.min, IntKind.max, IntKind.signed, IntKind.bits]; omega)
   have hm : 1 + (digI (-1 - t.var)).length ≤ maxLen := by unfold maxLen; omega
   repeat' (first | refine vs_ ?_ | ((first | refine vr_ ?_ | fail) <;> (try simp only [hc0, h0, hneg, go_sem, ↓reduceIte])) | ((first | (refine cs_ ?_ ?_ <;> intro hc) | refine cj_ ?_ | simp (disch := omega) only [encs_getN, qb] | refine qa (qe6 _) fun _ => ?_) <;> (try refine ev_ ?_)) | with_reducible exact ti_)
   rw [qby, if_pos hc0, if_neg h0]
 ·repeat' (first | refine vs_ ?_ | ((first | refine vr_ ?_ | fail) <;> (try simp only [hc0, go_sem, ↓reduceIte])) | ((first | (refine cs_ ?_ ?_ <;> intro hc) | refine cj_ ?_ | simp (disch := omega) only [encs_getN, qb]) <;> (try refine ev_ ?_)) | with_reducible exact ti_)
  rw [qby, if_neg hc0]
abbrev bldE (l : List UInt8) : Ent := .cus (bldR 125 5 l)
theorem qql {l s : List UInt8} (h : l.length + s.length ≤ Big) : VM Try.prog 102 (bldE l) (bldE (l ++ s)) [.ptr 0 0, .str s] (.tup [.int .i64 s.length, .nili]) :=
 q0k (ρ := Go.Proofs.Try.lays156_ren) { Go.Proofs.Try.lays156 with } Go.Proofs.Try.Builder_Extra_156 h
theorem qs4 {l : List UInt8} (h0 : l ≠ []) (h : l.length ≤ Big) : VM Try.prog 103 (bldE l) .dead [.ptr 0 0] (.str l) :=
 qui (ρ := Go.Proofs.Try.lays156_ren) { Go.Proofs.Try.lays156 with } Go.Proofs.Try.Builder_Extra_156 h0 h
theorem qdj {a : Ty} {b : Bool} (h : ql Try.prog 109 [encY a] (.str (txtY a))) (hl : (txtY a).length + 2 ≤ Big) : ql Try.prog 129 [encY a, .bool b] (.str (parW b (txtY a))) := by
 refine qe c0b (by simp) (by simp only [go_sem]) rfl fun hw => ?_
 have h1 : 1 + (txtY a).length ≤ maxLen := qb3 (by omega)
 have h2 : (txtY a).length + 1 + 1 ≤ maxLen := qb3 (by omega)
 cases b
 ·repeat' (first | refine vs_ ?_ | ((first | refine vr_ ?_ | refine qa h fun _ => ?_ | (refine cs_ ?_ ?_ <;> intro hc) | refine cj_ ?_ | simp (disch := omega) only [encs_getN, qb]) <;> (try refine ev_ ?_)) | with_reducible exact ti_)
  rfl
 ·repeat' (first | refine vs_ ?_ | ((first | refine vr_ ?_ | refine qa h fun _ => ?_ | (refine cs_ ?_ ?_ <;> intro hc) | refine cj_ ?_ | simp (disch := omega) only [encs_getN, qb]) <;> (try refine ev_ ?_)) | with_reducible exact ti_)
  rfl
theorem qm4 {t : Ty} (hv : (Lit.int .i64 t.var).wf = true) : qby t ≠ [] := by
 rw [qby]
 split
 ·split
  ·rw [ltrI, if_neg (by omega)]; split <;> simp
  ·simp
 ·assumption
theorem qn3 : ∀ t, qv t = true → (txtY t).length ≤ Big → ql Try.prog 109 [encY t] (.str (txtY t)) := by
 refine Ty.ind fun t ih hs hl => ?_
 refine qe c0c (by simp) (by simp only [go_sem]) rfl fun hw => ?_
 obtain ⟨hk, _, hv, _⟩ := (qhn t).1 hw.1
 by_cases hca : t.con = arrW
 ·obtain ⟨a, b, hab, sa, sb⟩ := qcu hs hca
  have e := qgd hca hab
  have hlen := congrArg List.length e
  simp only [List.length_append, List.length_cons, List.length_nil] at hlen
  have hp := qgl (decide (a.con = arrW)) (txtY a)
  have iha := ih a (by rw [hab]; simp) sa (by omega)
  have ihb := ih b (by rw [hab]; simp) sb (by omega)
  have ihc := qdj (b := decide (a.con = [45, 62])) iha (by omega)
  have e0 : (q8 t.args).getD 0 .junk = encY a := by rw [hab]; rfl
  have e1 : (q8 t.args).getD 1 .junk = encY b := by rw [hab]; rfl
  have e2 : t.args.length = 2 := by rw [hab]; rfl
  have hca' : t.con = [45, 62] := hca
  have m3 : (parW (decide (a.con = [45, 62])) (txtY a)).length + 4 ≤ maxLen := qb3 (by have : decide (a.con = arrW) = decide (a.con = [45, 62]) := rfl; rw [this] at hlen; omega)
  have m4 : (parW (decide (a.con = [45, 62])) (txtY a)).length + 4 + (txtY b).length ≤ maxLen := qb3 (by have : decide (a.con = arrW) = decide (a.con = [45, 62]) := rfl; rw [this] at hlen; omega)
  repeat' (first | refine vs_ ?_ | ((first | refine vr_ ?_ | fail) <;> (try simp only [hca', e0, e1, e2, go_sem, ↓reduceIte])) | ((first | simp (disch := omega) only [e1] | (refine cs_ ?_ ?_ <;> intro hc) | refine cj_ ?_ | simp (disch := omega) only [encs_getN, qb] | refine qa ihc fun _ => ?_ | refine qa ihb fun _ => ?_ | refine qf ihc ?_ | refine qf ihb ?_) <;> (try refine ev_ ?_)) | with_reducible exact ti_)
  rw [e]; rfl
 ·have e := qd5 hca
  have hca' : ¬ t.con = [45, 62] := hca
  have hlen := congrArg List.length e
  rw [List.length_append] at hlen
  have hnp : 0 < (qby t).length := List.length_pos_iff.2 (qm4 hv)
  have ihA : ∀ i, i < t.args.length → ql Try.prog 129 [encY (t.args.getD i Y0), .bool (decide ((t.args.getD i Y0).args ≠ []))] (.str (parW (decide ((t.args.getD i Y0).args ≠ [])) (txtY (t.args.getD i Y0)))) := fun i hi => by
   have hm := qdd hi
   have h1 := qg5 t.args i hi
   have h2 := congrArg List.length h1
   simp only [List.length_append, List.length_cons] at h2
   have h3 := qe1 t.args (i + 1)
   have h4 := qgl (decide ((t.args.getD i Y0).args ≠ [])) (txtY (t.args.getD i Y0))
   exact qdj (ih _ hm (qdz hs hm) (by omega)) (by omega)
  have htk : ∀ i, i < t.args.length → (qby t ++ argY (t.args.take i)).length + (32 :: parW (decide ((t.args.getD i Y0).args ≠ [])) (txtY (t.args.getD i Y0))).length ≤ Big := fun i hi => by
   have h1 := qg5 t.args i hi
   have h2 := congrArg List.length h1
   simp only [List.length_append, List.length_cons] at h2 ⊢
   have h3 := qe1 t.args (i + 1)
   omega
  have w0 : ([] : List UInt8).length + (qby t).length ≤ Big := by simp; omega
  repeat' (first | refine vs_ ?_ | ((first | refine vr_ ?_ | fail) <;> (try simp only [hca', go_sem, ↓reduceIte])) | ((first | (refine cs_ ?_ ?_ <;> intro hc) | refine cj_ ?_ | simp (disch := omega) only [encs_getN, qb] | refine qa (qey _) fun _ => ?_ | refine qa (qj8 (t := t)) fun _ => ?_ | refine qib 1 (qql w0) ?_ | refine qf (qey _) ?_ | refine qf (qj8 (t := t)) ?_) <;> (try refine ev_ ?_)) | with_reducible exact ti_)
  refine qs (S := Nat) (fun i => i ≤ t.args.length) (fun i => (⟨[(3, .ptr 1 0), (32, .sl 3 (q8 t.args)), (33, .int .i64 t.args.length), (34, .int .i64 i)], []⟩, [.blk (yc t), bldE (qby t ++ argY (t.args.take i))])) (fun i => t.args.length - i) ?_ fun i hi => ?_
  ·refine qk 0 [0, 1] (Nat.zero_le _) rfl (by simp) ?_ ?_ ?_ <;> simp only [List.take_zero, argY, List.append_nil] <;> (try refine ev_ ?_) <;> (try with_reducible exact ti_) <;> (try simp (disch := omega) only [qb, and_true, true_and])
  ·by_cases hlt : i < t.args.length
   ·have hb := htk i hlt
    have hle : decide (0 < ((t.args.getD i Y0).args.length : Int)) = decide ((t.args.getD i Y0).args ≠ []) := by
     refine decide_eq_decide.2 ⟨fun h hn => by rw [hn] at h; simp at h, fun h => ?_⟩
     have := List.length_pos_iff.2 h
     omega
    have m1 : 1 + (parW (decide ((t.args.getD i Y0).args ≠ [])) (txtY (t.args.getD i Y0))).length ≤ maxLen := qb3 (by simp only [List.length_append, List.length_cons] at hb; omega)
    repeat' (first | refine vs_ ?_ | ((first | refine vr_ ?_ | fail) <;> (try simp (disch := first | omega | (simp only [List.length_set, List.length_append, List.length_cons, List.length_nil]; done) | (simp only [List.length_set, List.length_append, List.length_cons, List.length_nil]; omega)) only [qca, qb, hle, go_sem, ↓reduceIte])) | ((first | (refine cs_ ?_ ?_ <;> intro hc) | refine cj_ ?_ | simp (disch := omega) only [encs_getN, qb] | refine qa (ihA i hlt) fun _ => ?_ | refine qib 1 (qql hb) ?_ | refine qf (ihA i hlt) ?_) <;> (try refine ev_ ?_)) | with_reducible exact ti_)
    ·refine qk (i + 1) [0, 1] ⟨by omega, by omega⟩ rfl (by simp) ?_ ?_ ?_ <;> simp only [qg5 _ _ hlt] <;> (try refine ev_ ?_) <;> (try with_reducible exact ti_) <;> (try simp (disch := omega) only [qb, and_true, true_and])
    ·omega
   ·have hend : qby t ++ argY (t.args.take i) = txtY t := by rw [e, List.take_of_length_le (by omega)]
    have hne : txtY t ≠ [] := by rw [e]; exact fun h => qm4 hv (List.append_eq_nil_iff.1 h).1
    rw [hend]
    repeat' (first | refine vs_ ?_ | ((first | refine vr_ ?_ | refine qib 1 (qs4 hne hl) ?_ | (refine cs_ ?_ ?_ <;> intro hc) | refine cj_ ?_ | simp (disch := omega) only [encs_getN, qb]) <;> (try refine ev_ ?_)) | with_reducible exact ti_)
    ·omega
def qbi (t : Ty) : List UInt8 := if qf4 t = true then txtY t else []
theorem qc4 {t : Ty} (h : qf4 t = true) : qv t = true := by
 rw [qf4, Bool.and_eq_true, Bool.and_eq_true] at h; exact h.2.2
theorem qcy {t : Ty} (h1 : szY t ≤ 20000) (h2 : dpY t ≤ 300) (hl : (qbi t).length ≤ Big) : ql Try.prog 75 [encY t] (.str (qbi t)) := by
 refine qe c0d (by simp) (by simp only [go_sem]) rfl fun hw => ?_
 have hL := qf1 h1 h2
 cases h : qf4 t with
 | false =>
   have e : qbi t = [] := by rw [qbi, if_neg (by rw [h]; simp)]
   rw [e]
   rw [h] at hL
   repeat' (first | refine vs_ ?_ | ((first | refine vr_ ?_ | refine qa hL fun _ => ?_ | (refine cs_ ?_ ?_ <;> intro hc) | refine cj_ ?_ | fail) <;> (try refine ev_ ?_)) | with_reducible exact ti_)
 | true =>
   have e : qbi t = txtY t := by rw [qbi, if_pos h]
   rw [e] at hl ⊢
   rw [h] at hL
   repeat' (first | refine vs_ ?_ | ((first | refine vr_ ?_ | refine qa hL fun _ => ?_ | refine qa (qn3 t (qc4 h) hl) fun _ => ?_ | (refine cs_ ?_ ?_ <;> intro hc) | refine cj_ ?_ | fail) <;> (try refine ev_ ?_)) | with_reducible exact ti_)
mutual
def conY : Ty → Nat
 | .mk c _ l => c.length + qh1 l
def qh1 : List Ty → Nat
 | [] => 0
 | x :: r => conY x + qh1 r
end
end Go.Proofs.Ytfpobiheiloamaa

/- how long the texts of types are -/
namespace Go.Proofs.Ytfpobiheiloamaa
open Go Go.RowKit Go.V
theorem qwo {t : Ty} (h : (encY t).wf) : -9223372036854775808 ≤ t.var ∧ t.var ≤ 9223372036854775807 := by
 have := ((qhn t).1 h).2.2.1
 simpa [Lit.wf, IntKind.min, IntKind.max, IntKind.signed, IntKind.bits] using this
theorem qm5 : ∀ (l : List Ty), (∀ x ∈ l, (txtY x).length + 3 ≤ conY x + 27 * szY x) → (argY l).length ≤ qh1 l + 27 * szYs l
 | [], _ => by simp [argY]
 | a :: r, h => by
   have h1 := h a (by simp)
   have h2 := qm5 r fun x hx => h x (by simp [hx])
   have h3 := (qgl (decide (a.args ≠ [])) (txtY a)).2
   rw [argY, List.length_append, List.length_cons, qh1, szYs]
   omega
theorem q1p (t : Ty) : conY t = t.con.length + qh1 t.args := by cases t; rw [conY]; rfl
theorem q2n (t : Ty) : szY t = 1 + szYs t.args := by cases t; rw [szY]; rfl
theorem q21 : ∀ t : Ty, qv t = true → (encY t).wf → (txtY t).length + 3 ≤ conY t + 27 * szY t := Ty.ind fun t ih hs hw => by
 have hn := qpo (qwo hw).1 (qwo hw).2
 rw [q1p, q2n]
 by_cases h : t.con = arrW
 ·obtain ⟨a, b, h2, ha, hb⟩ := qcu hs h
  have wa := ((qhn t).1 hw).2.2.2
  have i1 := ih a (by simp [h2]) ha (wa a (by simp [h2]))
  have i2 := ih b (by simp [h2]) hb (wa b (by simp [h2]))
  have h3 := (qgl (decide (a.con = arrW)) (txtY a)).2
  rw [qgd h h2, h2, qh1, qh1, qh1, szYs, szYs, szYs]
  simp only [List.length_append, List.length_cons, List.length_nil]
  omega
 ·have wa := ((qhn t).1 hw).2.2.2
  have := qm5 t.args fun x hx => ih x hx (qdz hs hx) (wa x hx)
  rw [qd5 h, List.length_append]
  omega
end Go.Proofs.Ytfpobiheiloamaa
