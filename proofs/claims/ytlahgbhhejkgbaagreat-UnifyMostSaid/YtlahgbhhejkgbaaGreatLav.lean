/- A text of this proof. -/
import Derived.Test.YtlahgbhhejkgbaaGreatLau

/- terms: the program's texts -/
set_option maxRecDepth 4000
namespace Go.Proofs.YtlahgbhhejkgbaaGreat
open Go Go.RowKit Go.V
set_option linter.unusedVariables false
set_option linter.unusedSimpArgs false

theorem qn8 {t : Ty} : qn Tryz.prog 107 [hdA t] (.str (qhe t)) := by
 refine qf c0bg (by simp) (by simp only [go_sem]) rfl fun hw => ?_
 have hv : (Lit.int .i64 t.var).wf = true := hw.1.2.1
 by_cases hc0 : t.con = []
 ·by_cases h0 : 0 ≤ t.var
  ·repeat' (first | refine vs_ ?_ | ((first | refine vr_ ?_ | fail) <;> (try simp only [hc0, h0, go_sem, ↓reduceIte])) | ((first | (refine cs_ ?_ ?_ <;> intro hc) | refine cj_ ?_ | simp (disch := omega) only [encs_getN, qb] | refine qa (qid _) fun _ => ?_) <;> (try refine ev_ ?_)) | with_reducible exact ti_)
   rw [qhe, if_pos hc0, if_pos h0]
  ·have hneg := qbou hv (by omega)
   have hd := q4k (n := -1 - t.var) (by have := qjy hv; simp [Lit.wf, IntKind.min, IntKind.max, IntKind.signed, IntKind.bits]; omega)
   have hm : 1 + (digI (-1 - t.var)).length ≤ maxLen := by unfold maxLen; omega
   repeat' (first | refine vs_ ?_ | ((first | refine vr_ ?_ | fail) <;> (try simp only [hc0, h0, hneg, go_sem, ↓reduceIte])) | ((first | (refine cs_ ?_ ?_ <;> intro hc) | refine cj_ ?_ | simp (disch := omega) only [encs_getN, qb] | refine qa (qgw _) fun _ => ?_) <;> (try refine ev_ ?_)) | with_reducible exact ti_)
   rw [qhe, if_pos hc0, if_neg h0]
 ·repeat' (first | refine vs_ ?_ | ((first | refine vr_ ?_ | fail) <;> (try simp only [hc0, go_sem, ↓reduceIte])) | ((first | (refine cs_ ?_ ?_ <;> intro hc) | refine cj_ ?_ | simp (disch := omega) only [encs_getN, qb]) <;> (try refine ev_ ?_)) | with_reducible exact ti_)
  rw [qhe, if_neg hc0]
abbrev bldE (l : List UInt8) : Ent := .cus (bldR 126 5 l)
theorem qw1 {l s : List UInt8} (h : l.length + s.length ≤ Big) : VM Tryz.prog 106 (bldE l) (bldE (l ++ s)) [.ptr 0 0, .str s] (.tup [.int .i64 s.length, .nili]) :=
 q7e (ρ := Go.Proofs.Tryz.lays156_ren) Go.Proofs.Tryz.bld166 Go.Proofs.Tryz.Builder_Extra_156 h
theorem q2k {l : List UInt8} (h0 : l ≠ []) (h : l.length ≤ Big) : VM Tryz.prog 108 (bldE l) .dead [.ptr 0 0] (.str l) :=
 q03 (ρ := Go.Proofs.Tryz.lays156_ren) Go.Proofs.Tryz.bld169 Go.Proofs.Tryz.Builder_Extra_156 h0 h
theorem qev {a : Ty} {b : Bool} (h : qn Tryz.prog 89 [encY a] (.str (txtY a))) (hl : (txtY a).length + 2 ≤ Big) : qn Tryz.prog 105 [encY a, .bool b] (.str (parW b (txtY a))) := by
 refine qf c0bh (by simp) (by simp only [go_sem]) rfl fun hw => ?_
 have h1 : 1 + (txtY a).length ≤ maxLen := qjh (by omega)
 have h2 : (txtY a).length + 1 + 1 ≤ maxLen := qjh (by omega)
 cases b
 ·repeat' (first | refine vs_ ?_ | ((first | refine vr_ ?_ | refine qa h fun _ => ?_ | (refine cs_ ?_ ?_ <;> intro hc) | refine cj_ ?_ | simp (disch := omega) only [encs_getN, qb]) <;> (try refine ev_ ?_)) | with_reducible exact ti_)
  rfl
 ·repeat' (first | refine vs_ ?_ | ((first | refine vr_ ?_ | refine qa h fun _ => ?_ | (refine cs_ ?_ ?_ <;> intro hc) | refine cj_ ?_ | simp (disch := omega) only [encs_getN, qb]) <;> (try refine ev_ ?_)) | with_reducible exact ti_)
  rfl
theorem qs9 {t : Ty} (hv : (Lit.int .i64 t.var).wf = true) : qhe t ≠ [] := by
 rw [qhe]
 split
 ·split
  ·rw [ltrI, if_neg (by omega)]; split <;> simp
  ·simp
 ·assumption
theorem qt3 : ∀ t, qbj t = true → (txtY t).length ≤ Big → qn Tryz.prog 89 [encY t] (.str (txtY t)) := by
 refine Ty.ind fun t ih hs hl => ?_
 refine qf c0bi (by simp) (by simp only [go_sem]) rfl fun hw => ?_
 obtain ⟨hk, _, hv, _⟩ := (qzz t).1 hw.1
 by_cases hca : t.con = arrW
 ·obtain ⟨a, b, hab, sa, sb⟩ := qw4 hs hca
  have e := q4y hca hab
  have hlen := congrArg List.length e
  simp only [List.length_append, List.length_cons, List.length_nil] at hlen
  have hp := qst (decide (a.con = arrW)) (txtY a)
  have iha := ih a (by rw [hab]; simp) sa (by omega)
  have ihb := ih b (by rw [hab]; simp) sb (by omega)
  have ihc := qev (b := decide (a.con = [45, 62])) iha (by omega)
  have e0 : (qq t.args).getD 0 .junk = encY a := by rw [hab]; rfl
  have e1 : (qq t.args).getD 1 .junk = encY b := by rw [hab]; rfl
  have e2 : t.args.length = 2 := by rw [hab]; rfl
  have hca' : t.con = [45, 62] := hca
  have m3 : (parW (decide (a.con = [45, 62])) (txtY a)).length + 4 ≤ maxLen := qjh (by have : decide (a.con = arrW) = decide (a.con = [45, 62]) := rfl; rw [this] at hlen; omega)
  have m4 : (parW (decide (a.con = [45, 62])) (txtY a)).length + 4 + (txtY b).length ≤ maxLen := qjh (by have : decide (a.con = arrW) = decide (a.con = [45, 62]) := rfl; rw [this] at hlen; omega)
  repeat' (first | refine vs_ ?_ | ((first | refine vr_ ?_ | fail) <;> (try simp only [hca', e0, e1, e2, go_sem, ↓reduceIte])) | ((first | simp (disch := omega) only [e1] | (refine cs_ ?_ ?_ <;> intro hc) | refine cj_ ?_ | simp (disch := omega) only [encs_getN, qb] | refine qa ihc fun _ => ?_ | refine qa ihb fun _ => ?_ | refine qg ihc ?_ | refine qg ihb ?_) <;> (try refine ev_ ?_)) | with_reducible exact ti_)
  rw [e]; rfl
 ·have e := q49 hca
  have hca' : ¬ t.con = [45, 62] := hca
  have hlen := congrArg List.length e
  rw [List.length_append] at hlen
  have hnp : 0 < (qhe t).length := List.length_pos_iff.2 (qs9 hv)
  have ihA : ∀ i, i < t.args.length → qn Tryz.prog 105 [encY (t.args.getD i Y0), .bool (decide ((t.args.getD i Y0).args ≠ []))] (.str (parW (decide ((t.args.getD i Y0).args ≠ [])) (txtY (t.args.getD i Y0)))) := fun i hi => by
   have hm := qbs hi
   have h1 := qjz t.args i hi
   have h2 := congrArg List.length h1
   simp only [List.length_append, List.length_cons] at h2
   have h3 := qf9 t.args (i + 1)
   have h4 := qst (decide ((t.args.getD i Y0).args ≠ [])) (txtY (t.args.getD i Y0))
   exact qev (ih _ hm (qy1 hs hm) (by omega)) (by omega)
  have htk : ∀ i, i < t.args.length → (qhe t ++ argY (t.args.take i)).length + (32 :: parW (decide ((t.args.getD i Y0).args ≠ [])) (txtY (t.args.getD i Y0))).length ≤ Big := fun i hi => by
   have h1 := qjz t.args i hi
   have h2 := congrArg List.length h1
   simp only [List.length_append, List.length_cons] at h2 ⊢
   have h3 := qf9 t.args (i + 1)
   omega
  have w0 : ([] : List UInt8).length + (qhe t).length ≤ Big := by simp; omega
  repeat' (first | refine vs_ ?_ | ((first | refine vr_ ?_ | fail) <;> (try simp only [hca', go_sem, ↓reduceIte])) | ((first | (refine cs_ ?_ ?_ <;> intro hc) | refine cj_ ?_ | simp (disch := omega) only [encs_getN, qb] | refine qa (qmt _) fun _ => ?_ | refine qa (qn8 (t := t)) fun _ => ?_ | refine qbp 1 (qw1 w0) ?_ | refine qg (qmt _) ?_ | refine qg (qn8 (t := t)) ?_) <;> (try refine ev_ ?_)) | with_reducible exact ti_)
  refine qp (S := Nat) (fun i => i ≤ t.args.length) (fun i => (⟨[(3, .ptr 1 0), (32, .sl 3 (qq t.args)), (33, .int .i64 t.args.length), (34, .int .i64 i)], []⟩, [.blk (yc t), bldE (qhe t ++ argY (t.args.take i))])) (fun i => t.args.length - i) ?_ fun i hi => ?_
  ·refine qm 0 [0, 1] (Nat.zero_le _) rfl (by simp) ?_ ?_ ?_ <;> simp only [List.take_zero, argY, List.append_nil] <;> (try refine ev_ ?_) <;> (try with_reducible exact ti_) <;> (try simp (disch := omega) only [qb, and_true, true_and])
  ·by_cases hlt : i < t.args.length
   ·have hb := htk i hlt
    have hle : decide (0 < ((t.args.getD i Y0).args.length : Int)) = decide ((t.args.getD i Y0).args ≠ []) := by
     refine decide_eq_decide.2 ⟨fun h hn => by rw [hn] at h; simp at h, fun h => ?_⟩
     have := List.length_pos_iff.2 h
     omega
    have m1 : 1 + (parW (decide ((t.args.getD i Y0).args ≠ [])) (txtY (t.args.getD i Y0))).length ≤ maxLen := qjh (by simp only [List.length_append, List.length_cons] at hb; omega)
    repeat' (first | refine vs_ ?_ | ((first | refine vr_ ?_ | fail) <;> (try simp (disch := first | omega | (simp only [List.length_set, List.length_append, List.length_cons, List.length_nil]; done) | (simp only [List.length_set, List.length_append, List.length_cons, List.length_nil]; omega)) only [q8, qb, hle, go_sem, ↓reduceIte])) | ((first | (refine cs_ ?_ ?_ <;> intro hc) | refine cj_ ?_ | simp (disch := omega) only [encs_getN, qb] | refine qa (ihA i hlt) fun _ => ?_ | refine qbp 1 (qw1 hb) ?_ | refine qg (ihA i hlt) ?_) <;> (try refine ev_ ?_)) | with_reducible exact ti_)
    ·refine qm (i + 1) [0, 1] ⟨by omega, by omega⟩ rfl (by simp) ?_ ?_ ?_ <;> simp only [qjz _ _ hlt] <;> (try refine ev_ ?_) <;> (try with_reducible exact ti_) <;> (try simp (disch := omega) only [qb, and_true, true_and])
    ·omega
   ·have hend : qhe t ++ argY (t.args.take i) = txtY t := by rw [e, List.take_of_length_le (by omega)]
    have hne : txtY t ≠ [] := by rw [e]; exact fun h => qs9 hv (List.append_eq_nil_iff.1 h).1
    rw [hend]
    repeat' (first | refine vs_ ?_ | ((first | refine vr_ ?_ | refine qbp 1 (q2k hne hl) ?_ | (refine cs_ ?_ ?_ <;> intro hc) | refine cj_ ?_ | simp (disch := omega) only [encs_getN, qb]) <;> (try refine ev_ ?_)) | with_reducible exact ti_)
    ·omega
def qjt (t : Ty) : List UInt8 := if qc t = true then txtY t else []
theorem qft {t : Ty} (h : qc t = true) : qbj t = true := by
 rw [qc, Bool.and_eq_true, Bool.and_eq_true] at h; exact h.2.2
theorem qlq {t : Ty} (h1 : szY t ≤ 20000) (h2 : dpY t ≤ 300) (hl : (qjt t).length ≤ Big) : qn Tryz.prog 64 [encY t] (.str (qjt t)) := by
 refine qf c0bj (by simp) (by simp only [go_sem]) rfl fun hw => ?_
 have hL := qcr h1 h2
 cases h : qc t with
 | false =>
   have e : qjt t = [] := by rw [qjt, if_neg (by rw [h]; simp)]
   rw [e]
   rw [h] at hL
   repeat' (first | refine vs_ ?_ | ((first | refine vr_ ?_ | refine qa hL fun _ => ?_ | (refine cs_ ?_ ?_ <;> intro hc) | refine cj_ ?_ | fail) <;> (try refine ev_ ?_)) | with_reducible exact ti_)
 | true =>
   have e : qjt t = txtY t := by rw [qjt, if_pos h]
   rw [e] at hl ⊢
   rw [h] at hL
   repeat' (first | refine vs_ ?_ | ((first | refine vr_ ?_ | refine qa hL fun _ => ?_ | refine qa (qt3 t (qft h) hl) fun _ => ?_ | (refine cs_ ?_ ?_ <;> intro hc) | refine cj_ ?_ | fail) <;> (try refine ev_ ?_)) | with_reducible exact ti_)
end Go.Proofs.YtlahgbhhejkgbaaGreat
