/- A text of this proof. -/
import Derived.Test.YtbbjelfnocmaoaaAas
import Derived.Test.YtbbjelfnocmaoaaAat

/- terms: the program's texts -/
set_option maxRecDepth 4000
namespace Go.Proofs.Ytbbjelfnocmaoaa
open Go Go.RowKit Go.V
set_option linter.unusedVariables false
set_option linter.unusedSimpArgs false

theorem ql7 {t : Ty} : qk Try.prog 53 [hdA t] (.str (qf8 t)) := by
 refine qf c0t (by simp) (by simp only [go_sem]) rfl fun hw => ?_
 have hv : (Lit.int .i64 t.var).wf = true := hw.1.2.1
 by_cases hc0 : t.con = []
 ·by_cases h0 : 0 ≤ t.var
  ·repeat' (first | refine vs_ ?_ | ((first | refine vr_ ?_ | fail) <;> (try simp only [hc0, h0, go_sem, ↓reduceIte])) | ((first | (refine cs_ ?_ ?_ <;> intro hc) | refine cj_ ?_ | simp (disch := omega) only [encs_getN, qb] | refine qa (qgg _) fun _ => ?_) <;> (try refine ev_ ?_)) | with_reducible exact ti_)
   rw [qf8, if_pos hc0, if_pos h0]
  ·have hneg := qbaf hv (by omega)
   have hd := qx4 (n := -1 - t.var) (by have := qmk hv; simp [Lit.wf, IntKind.min, IntKind.max, IntKind.signed, IntKind.bits]; omega)
   have hm : 1 + (digI (-1 - t.var)).length ≤ maxLen := by unfold maxLen; omega
   repeat' (first | refine vs_ ?_ | ((first | refine vr_ ?_ | fail) <;> (try simp only [hc0, h0, hneg, go_sem, ↓reduceIte])) | ((first | (refine cs_ ?_ ?_ <;> intro hc) | refine cj_ ?_ | simp (disch := omega) only [encs_getN, qb] | refine qa (qfe _) fun _ => ?_) <;> (try refine ev_ ?_)) | with_reducible exact ti_)
   rw [qf8, if_pos hc0, if_neg h0]
 ·repeat' (first | refine vs_ ?_ | ((first | refine vr_ ?_ | fail) <;> (try simp only [hc0, go_sem, ↓reduceIte])) | ((first | (refine cs_ ?_ ?_ <;> intro hc) | refine cj_ ?_ | simp (disch := omega) only [encs_getN, qb]) <;> (try refine ev_ ?_)) | with_reducible exact ti_)
  rw [qf8, if_neg hc0]
abbrev bldE (l : List UInt8) : Ent := .cus (bldR 97 5 l)
theorem qsn {l s : List UInt8} (h : l.length + s.length ≤ Big) : VM Try.prog 52 (bldE l) (bldE (l ++ s)) [.ptr 0 0, .str s] (.tup [.int .i64 s.length, .nili]) :=
 q8m (ρ := Go.Proofs.Try.lays156_ren) Go.Proofs.Try.bld166 Go.Proofs.Try.Builder_Extra_156 h
theorem qxy {l : List UInt8} (h0 : l ≠ []) (h : l.length ≤ Big) : VM Try.prog 54 (bldE l) .dead [.ptr 0 0] (.str l) :=
 qx8 (ρ := Go.Proofs.Try.lays156_ren) Go.Proofs.Try.bld169 Go.Proofs.Try.Builder_Extra_156 h0 h
theorem qd4 {a : Ty} {b : Bool} (h : qk Try.prog 33 [encY a] (.str (txtY a))) (hl : (txtY a).length + 2 ≤ Big) : qk Try.prog 51 [encY a, .bool b] (.str (parW b (txtY a))) := by
 refine qf c0u (by simp) (by simp only [go_sem]) rfl fun hw => ?_
 have h1 : 1 + (txtY a).length ≤ maxLen := qx (by omega)
 have h2 : (txtY a).length + 1 + 1 ≤ maxLen := qx (by omega)
 cases b
 ·repeat' (first | refine vs_ ?_ | ((first | refine vr_ ?_ | refine qa h fun _ => ?_ | (refine cs_ ?_ ?_ <;> intro hc) | refine cj_ ?_ | simp (disch := omega) only [encs_getN, qb]) <;> (try refine ev_ ?_)) | with_reducible exact ti_)
  rfl
 ·repeat' (first | refine vs_ ?_ | ((first | refine vr_ ?_ | refine qa h fun _ => ?_ | (refine cs_ ?_ ?_ <;> intro hc) | refine cj_ ?_ | simp (disch := omega) only [encs_getN, qb]) <;> (try refine ev_ ?_)) | with_reducible exact ti_)
  rfl
theorem qpa {t : Ty} (hv : (Lit.int .i64 t.var).wf = true) : qf8 t ≠ [] := by
 rw [qf8]
 split
 ·split
  ·rw [ltrI, if_neg (by omega)]; split <;> simp
  ·simp
 ·assumption
theorem qqo : ∀ t, qbk t = true → (txtY t).length ≤ Big → qk Try.prog 33 [encY t] (.str (txtY t)) := by
 refine Ty.ind fun t ih hs hl => ?_
 refine qf c0v (by simp) (by simp only [go_sem]) rfl fun hw => ?_
 obtain ⟨hk, _, hv, _⟩ := (qvf t).1 hw.1
 by_cases hca : t.con = arrW
 ·obtain ⟨a, b, hab, sa, sb⟩ := qun hs hca
  have e := qxc hca hab
  have hlen := congrArg List.length e
  simp only [List.length_append, List.length_cons, List.length_nil] at hlen
  have hp := qo5 (decide (a.con = arrW)) (txtY a)
  have iha := ih a (by rw [hab]; simp) sa (by omega)
  have ihb := ih b (by rw [hab]; simp) sb (by omega)
  have ihc := qd4 (b := decide (a.con = [45, 62])) iha (by omega)
  have e0 : (ql t.args).getD 0 .junk = encY a := by rw [hab]; rfl
  have e1 : (ql t.args).getD 1 .junk = encY b := by rw [hab]; rfl
  have e2 : t.args.length = 2 := by rw [hab]; rfl
  have hca' : t.con = [45, 62] := hca
  have m3 : (parW (decide (a.con = [45, 62])) (txtY a)).length + 4 ≤ maxLen := qx (by have : decide (a.con = arrW) = decide (a.con = [45, 62]) := rfl; rw [this] at hlen; omega)
  have m4 : (parW (decide (a.con = [45, 62])) (txtY a)).length + 4 + (txtY b).length ≤ maxLen := qx (by have : decide (a.con = arrW) = decide (a.con = [45, 62]) := rfl; rw [this] at hlen; omega)
  repeat' (first | refine vs_ ?_ | ((first | refine vr_ ?_ | fail) <;> (try simp only [hca', e0, e1, e2, go_sem, ↓reduceIte])) | ((first | simp (disch := omega) only [e1] | (refine cs_ ?_ ?_ <;> intro hc) | refine cj_ ?_ | simp (disch := omega) only [encs_getN, qb] | refine qa ihc fun _ => ?_ | refine qa ihb fun _ => ?_ | refine qg ihc ?_ | refine qg ihb ?_) <;> (try refine ev_ ?_)) | with_reducible exact ti_)
  rw [e]; rfl
 ·have e := qvy hca
  have hca' : ¬ t.con = [45, 62] := hca
  have hlen := congrArg List.length e
  rw [List.length_append] at hlen
  have hnp : 0 < (qf8 t).length := List.length_pos_iff.2 (qpa hv)
  have ihA : ∀ i, i < t.args.length → qk Try.prog 51 [encY (t.args.getD i Y0), .bool (decide ((t.args.getD i Y0).args ≠ []))] (.str (parW (decide ((t.args.getD i Y0).args ≠ [])) (txtY (t.args.getD i Y0)))) := fun i hi => by
   have hm := qdm hi
   have h1 := qhd t.args i hi
   have h2 := congrArg List.length h1
   simp only [List.length_append, List.length_cons] at h2
   have h3 := qe1 t.args (i + 1)
   have h4 := qo5 (decide ((t.args.getD i Y0).args ≠ [])) (txtY (t.args.getD i Y0))
   exact qd4 (ih _ hm (qsb hs hm) (by omega)) (by omega)
  have htk : ∀ i, i < t.args.length → (qf8 t ++ argY (t.args.take i)).length + (32 :: parW (decide ((t.args.getD i Y0).args ≠ [])) (txtY (t.args.getD i Y0))).length ≤ Big := fun i hi => by
   have h1 := qhd t.args i hi
   have h2 := congrArg List.length h1
   simp only [List.length_append, List.length_cons] at h2 ⊢
   have h3 := qe1 t.args (i + 1)
   omega
  have w0 : ([] : List UInt8).length + (qf8 t).length ≤ Big := by simp; omega
  repeat' (first | refine vs_ ?_ | ((first | refine vr_ ?_ | fail) <;> (try simp only [hca', go_sem, ↓reduceIte])) | ((first | (refine cs_ ?_ ?_ <;> intro hc) | refine cj_ ?_ | simp (disch := omega) only [encs_getN, qb] | refine qa (qj5 _) fun _ => ?_ | refine qa (ql7 (t := t)) fun _ => ?_ | refine qbr 1 (qsn w0) ?_ | refine qg (qj5 _) ?_ | refine qg (ql7 (t := t)) ?_) <;> (try refine ev_ ?_)) | with_reducible exact ti_)
  refine qz (S := Nat) (fun i => i ≤ t.args.length) (fun i => (⟨[(3, .ptr 1 0), (32, .sl 3 (ql t.args)), (33, .int .i64 t.args.length), (34, .int .i64 i)], []⟩, [.blk (yc t), bldE (qf8 t ++ argY (t.args.take i))])) (fun i => t.args.length - i) ?_ fun i hi => ?_
  ·refine qp 0 [0, 1] (Nat.zero_le _) rfl (by simp) ?_ ?_ ?_ <;> simp only [List.take_zero, argY, List.append_nil] <;> (try refine ev_ ?_) <;> (try with_reducible exact ti_) <;> (try simp (disch := omega) only [qb, and_true, true_and])
  ·by_cases hlt : i < t.args.length
   ·have hb := htk i hlt
    have hle : decide (0 < ((t.args.getD i Y0).args.length : Int)) = decide ((t.args.getD i Y0).args ≠ []) := by
     refine decide_eq_decide.2 ⟨fun h hn => by rw [hn] at h; simp at h, fun h => ?_⟩
     have := List.length_pos_iff.2 h
     omega
    have m1 : 1 + (parW (decide ((t.args.getD i Y0).args ≠ [])) (txtY (t.args.getD i Y0))).length ≤ maxLen := qx (by simp only [List.length_append, List.length_cons] at hb; omega)
    repeat' (first | refine vs_ ?_ | ((first | refine vr_ ?_ | fail) <;> (try simp (disch := first | omega | (simp only [List.length_set, List.length_append, List.length_cons, List.length_nil]; done) | (simp only [List.length_set, List.length_append, List.length_cons, List.length_nil]; omega)) only [qb1, qb, hle, go_sem, ↓reduceIte])) | ((first | (refine cs_ ?_ ?_ <;> intro hc) | refine cj_ ?_ | simp (disch := omega) only [encs_getN, qb] | refine qa (ihA i hlt) fun _ => ?_ | refine qbr 1 (qsn hb) ?_ | refine qg (ihA i hlt) ?_) <;> (try refine ev_ ?_)) | with_reducible exact ti_)
    ·refine qp (i + 1) [0, 1] ⟨by omega, by omega⟩ rfl (by simp) ?_ ?_ ?_ <;> simp only [qhd _ _ hlt] <;> (try refine ev_ ?_) <;> (try with_reducible exact ti_) <;> (try simp (disch := omega) only [qb, and_true, true_and])
    ·omega
   ·have hend : qf8 t ++ argY (t.args.take i) = txtY t := by rw [e, List.take_of_length_le (by omega)]
    have hne : txtY t ≠ [] := by rw [e]; exact fun h => qpa hv (List.append_eq_nil_iff.1 h).1
    rw [hend]
    repeat' (first | refine vs_ ?_ | ((first | refine vr_ ?_ | refine qbr 1 (qxy hne hl) ?_ | (refine cs_ ?_ ?_ <;> intro hc) | refine cj_ ?_ | simp (disch := omega) only [encs_getN, qb]) <;> (try refine ev_ ?_)) | with_reducible exact ti_)
    ·omega
def qc5 (t : Ty) : List UInt8 := if q6 t = true then txtY t else []
theorem qh5 {t : Ty} (h : q6 t = true) : qbk t = true := by
 rw [q6, Bool.and_eq_true, Bool.and_eq_true] at h; exact h.2.2
theorem qee {t : Ty} (h1 : szY t ≤ 20000) (h2 : dpY t ≤ 300) (hl : (qc5 t).length ≤ Big) : qk Try.prog 19 [encY t] (.str (qc5 t)) := by
 refine qf c0w (by simp) (by simp only [go_sem]) rfl fun hw => ?_
 have hL := qb3 h1 h2
 cases h : q6 t with
 | false =>
   have e : qc5 t = [] := by rw [qc5, if_neg (by rw [h]; simp)]
   rw [e]
   rw [h] at hL
   repeat' (first | refine vs_ ?_ | ((first | refine vr_ ?_ | refine qa hL fun _ => ?_ | (refine cs_ ?_ ?_ <;> intro hc) | refine cj_ ?_ | fail) <;> (try refine ev_ ?_)) | with_reducible exact ti_)
 | true =>
   have e : qc5 t = txtY t := by rw [qc5, if_pos h]
   rw [e] at hl ⊢
   rw [h] at hL
   repeat' (first | refine vs_ ?_ | ((first | refine vr_ ?_ | refine qa hL fun _ => ?_ | refine qa (qqo t (qh5 h) hl) fun _ => ?_ | (refine cs_ ?_ ?_ <;> intro hc) | refine cj_ ?_ | fail) <;> (try refine ev_ ?_)) | with_reducible exact ti_)
end Go.Proofs.Ytbbjelfnocmaoaa
