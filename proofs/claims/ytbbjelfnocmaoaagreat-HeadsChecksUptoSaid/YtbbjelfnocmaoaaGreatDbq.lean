/- A text of this proof. -/
import Derived.Test.YtbbjelfnocmaoaaGreatDbk
import Derived.Test.YtbbjelfnocmaoaaGreatDax

/- instances' heads: the reference's walk -/
set_option maxRecDepth 4000
namespace Go.Proofs.YtbbjelfnocmaoaaGreat
open Go Go.RowKit Go.V
set_option linter.unusedVariables false
set_option linter.unusedSimpArgs false

set_option maxHeartbeats 1000000 in
theorem qii (x : Ins) : qg Tryz.prog 13 [encI x] (.int .i64 (chkI x)) := by
 refine qd c0dg (by simp) (by simp only [go_sem]) rfl fun hw => ?_
 have hl := (qb7 (qjt hw.1).2.2.2).1
 unfold k0dg
 refine qcj (qhy ?_)
 (refine ev_ ?_; (try with_reducible exact ti_))
 refine qcj ?_
 refine qjw (S := Unit) (fun _ => True) (fun _ => (⟨[(1, .ptr 0 0), (34, .bool (!hdI x))], []⟩, [.blk (idc x)])) ?_ fun _ _ => ?_
 ·repeat' (first | refine vs_ ?_ | ((first | refine vr_ ?_ | refine qa (qgf _) fun _ => ?_ | (refine cs_ ?_ ?_ <;> intro hc) | refine cj_ ?_ | simp (disch := omega) only [encs_getN, qb]) <;> (try refine ev_ ?_)) | with_reducible exact ti_)
  all_goals (refine qh () [0] trivial rfl (by simp) ?_ ?_ ?_ <;> (try refine ev_ ?_) <;> (try with_reducible exact ti_) <;> (try simp (disch := omega) only [qb, and_true, true_and]))
  all_goals simp_all [hdI, arrW]
  by_cases h100 : x.n ≤ 100
  ·rw [decide_eq_true h100, decide_eq_false (by omega)]; rfl
  ·rw [decide_eq_false h100, decide_eq_true (by omega)]; rfl
 ·by_cases hx : hdI x = true
  case neg =>
   rw [Bool.not_eq_true] at hx
   rw [hx]
   repeat' (first | refine vs_ ?_ | ((first | refine vr_ ?_ | (refine cs_ ?_ ?_ <;> intro hc) | refine cj_ ?_ | simp (disch := omega) only [encs_getN, qb]) <;> (try refine ev_ ?_)) | with_reducible exact ti_)
   rw [chkI, if_neg (by simp [hx])]
  rw [hx]
  repeat' (first | refine vs_ ?_ | ((first | refine vr_ ?_ | (refine cs_ ?_ ?_ <;> intro hc) | refine cj_ ?_ | simp (disch := omega) only [encs_getN, qb]) <;> (try refine ev_ ?_)) | with_reducible exact ti_)
  refine qm (S := Nat) (fun i => i ≤ x.ps.length ∧ (x.ps.take i).all (plnI x.n) = true) (fun i => (⟨[(1, .ptr 0 0), (3, .int .i64 i)], []⟩, [.blk (idc x)])) (fun i => x.ps.length - i) ?_ fun i hi => ?_
  ·refine qh 0 [0] ⟨Nat.zero_le _, rfl⟩ rfl (by simp) ?_ ?_ ?_ <;> (try refine ev_ ?_) <;> (try with_reducible exact ti_) <;> (try simp (disch := omega) only [qb, and_true, true_and])
  ·obtain ⟨hi, ha⟩ := hi
   by_cases hlt : i < x.ps.length
   ·have hg := qbf hlt
    have hnx : (x.ps.take (i + 1)).all (plnI x.n) = plnI x.n (x.ps.getD i P0) := by
     rw [qg3 hlt, List.all_append, ha]; simp
    have hno : plnI x.n (x.ps.getD i P0) = false → chkI x = 10 := fun h => by
     rw [chkI, if_neg]
     rintro ⟨_, h2⟩
     rw [List.all_eq_true.1 h2 _ (qcd hlt)] at h
     cases h
    generalize hp : x.ps.getD i P0 = p at hnx hno hg
    have hpn : plnI x.n p = (conW p.cls && (decide (p.ty.con = []) && (decide (p.ty.args.length = 0) && (decide (0 ≤ p.ty.var) && decide (p.ty.var < x.n))))) := rfl
    have hP := qgf p.cls
    cases hq : plnI x.n p with
    | false =>
      rw [hno hq]
      rw [hq] at hpn
      repeat' (first | refine vs_ ?_ | ((first | refine vr_ ?_ | fail) <;> (try simp only [hg, go_sem, ↓reduceIte])) | ((first | simp (disch := omega) only [hg] | (refine cs_ ?_ ?_ <;> intro hc) | refine cj_ ?_ | simp (disch := omega) only [encs_getN, qb] | refine qa hP fun _ => ?_) <;> (try refine ev_ ?_)) | with_reducible exact ti_)
      all_goals try (exfalso; omega)
      exfalso
      simp_all
    | true =>
      have hqt := hq
      simp only [plnI, Bool.and_eq_true, decide_eq_true_eq] at hq
      obtain ⟨y1, y2, y3, y4, y5⟩ := hq
      rw [y1] at hP
      repeat' (first | refine vs_ ?_ | ((first | refine vr_ ?_ | fail) <;> (try simp only [hg, go_sem, ↓reduceIte])) | ((first | simp (disch := omega) only [hg] | (refine cs_ ?_ ?_ <;> intro hc) | refine cj_ ?_ | simp (disch := omega) only [encs_getN, qb] | refine qa hP fun _ => ?_) <;> (try refine ev_ ?_)) | with_reducible exact ti_)
      all_goals try (exfalso; first | omega | contradiction)
      refine qh (i + 1) [0] ⟨⟨by omega, hnx.trans hqt⟩, by omega⟩ rfl (by simp) ?_ ?_ ?_ <;> (try refine ev_ ?_) <;> (try with_reducible exact ti_) <;> (try simp (disch := omega) only [qb, and_true, true_and])
   ·have hie : i = x.ps.length := by omega
    subst hie
    rw [List.take_length] at ha
    have hch : chkI x = 0 := by rw [chkI, if_pos ⟨hx, ha⟩]
    rw [hch]
    repeat' (first | refine vs_ ?_ | ((first | refine vr_ ?_ | (refine cs_ ?_ ?_ <;> intro hc) | refine cj_ ?_ | simp (disch := omega) only [encs_getN, qb]) <;> (try refine ev_ ?_)) | with_reducible exact ti_)
    all_goals (exfalso; omega)
theorem qli (l : List Ins) (cls con : List UInt8) : qg Tryz.prog 11 [.sl 4 (qbo l), .str cls, .str con] (.tup [.int .i64 (fndI cls con l 0).1, .bool (fndI cls con l 0).2]) := by
 refine qd c0dh (by simp) (by simp only [go_sem]) rfl fun hw => ?_
 have hl := (qe6 hw.1).1
 repeat' (first | refine vs_ ?_ | ((first | refine vr_ ?_ | (refine cs_ ?_ ?_ <;> intro hc) | refine cj_ ?_ | simp (disch := omega) only [encs_getN, qb]) <;> (try refine ev_ ?_)) | with_reducible exact ti_)
 refine qm (S := Nat) (fun i => i ≤ l.length ∧ fndI cls con (l.drop i) i = fndI cls con l 0) (fun i => (⟨[(0, .sl 4 (qbo l)), (1, .str cls), (2, .str con), (8, .int .i64 i)], []⟩, [])) (fun i => l.length - i) ?_ fun i hi => ?_
 ·refine qh 0 [] ⟨Nat.zero_le _, rfl⟩ rfl (by simp) ?_ ?_ ?_ <;> (try refine ev_ ?_) <;> (try with_reducible exact ti_) <;> (try simp (disch := omega) only [qb, and_true, true_and])
 ·obtain ⟨hi, ha⟩ := hi
  by_cases hlt : i < l.length
  ·have hg := qcl hlt
   rw [qjn hlt] at ha
   repeat' (first | refine vs_ ?_ | ((first | refine vr_ ?_ | fail) <;> (try simp (disch := first | omega | (simp only [List.length_set, List.length_append, List.length_cons, List.length_nil]; done) | (simp only [List.length_set, List.length_append, List.length_cons, List.length_nil]; omega)) only [hg, qb, go_sem, ↓reduceIte])) | ((first | simp (disch := omega) only [hg] | (refine cs_ ?_ ?_ <;> intro hc) | refine cj_ ?_ | simp (disch := omega) only [encs_getN, qb]) <;> (try refine ev_ ?_)) | with_reducible exact ti_)
   all_goals try (exfalso; omega)
   ·rw [if_pos ⟨by assumption, by assumption⟩] at ha
    rw [← ha]
   all_goals (rw [if_neg (by rintro ⟨a, b⟩; contradiction)] at ha)
   all_goals (refine qh (i + 1) [] ⟨⟨by omega, ha⟩, by omega⟩ rfl (by simp) ?_ ?_ ?_ <;> (try refine ev_ ?_) <;> (try with_reducible exact ti_) <;> (try simp (disch := omega) only [qb, and_true, true_and]))
  ·rw [ql9 (by omega)] at ha
   repeat' (first | refine vs_ ?_ | ((first | refine vr_ ?_ | (refine cs_ ?_ ?_ <;> intro hc) | refine cj_ ?_ | simp (disch := omega) only [encs_getN, qb]) <;> (try refine ev_ ?_)) | with_reducible exact ti_)
   all_goals first | (exfalso; omega) | (rw [← ha])
theorem qbjg (v : Int) : qg Tryz.prog 41 [.int .i64 v] (encY (.mk [] v [])) := by
 refine qd c0di (by simp) (by simp only [go_sem]) (qbp 0 _) fun hw => ?_
 repeat' (first | refine vs_ ?_ | ((first | refine vr_ ?_ | (refine cs_ ?_ ?_ <;> intro hc) | refine cj_ ?_ | fail) <;> (try refine ev_ ?_)) | with_reducible exact ti_)
 all_goals (simp only [encY, qj])
def hdSt (x : Ins) (i : Nat) : AF × List Ent := (⟨[(1, .ptr 0 0), (2, .ptr 1 0), (3, .ptr 2 0), (4, .int .i64 i)], []⟩, [.blk (idc x), .blk [.str [], .int .i64 0, .nils], .blk [.str x.con, .int .i64 0, accV 3 (qj (vsI i))]] ++ accE 3 (qj (vsI i)))
set_option maxHeartbeats 1000000 in
theorem qsk {x : Ins} (hn1 : x.n ≤ 200) : qg Tryz.prog 22 [encI x] (encY (qdo x)) := by
 refine qd c0dj (by simp) (by simp only [go_sem]) (qbp 0 _) fun hw => ?_
 obtain ⟨m, hm⟩ : ∃ m : Nat, x.n.toNat = m := ⟨_, rfl⟩
 have hm1 : m ≤ 200 := by omega
 repeat' (first | refine vs_ ?_ | ((first | refine vr_ ?_ | (refine cs_ ?_ ?_ <;> intro hc) | refine cj_ ?_ | simp (disch := omega) only [encs_getN, qb]) <;> (try refine ev_ ?_)) | with_reducible exact ti_)
 refine qm (S := Nat) (fun i => i ≤ m) (hdSt x) (fun i => m - i) ?_ fun i hi => ?_
 ·refine qh 0 [0, 1, 2] (Nat.zero_le _) rfl (by simp) ?_ ?_ ?_ <;> simp only [hdSt, qe7, qbq, qx, qw, List.append_nil] <;> (try refine ev_ ?_) <;> (try with_reducible exact ti_) <;> (try simp (disch := omega) only [qb, and_true, true_and])
 ·unfold hdSt
  have hv := ql1 i
  by_cases hlt : i < m
  ·have hE : qj (vsI (i + 1)) = qj (vsI i) ++ [encY (.mk [] i [])] := by rw [qln, ← qc8]
   have hcap : qcb (i + 1) 48 = True := eq_true (by unfold qcb; omega)
   have hV := qbjg i
   by_cases hi0 : i = 0
   ·subst hi0
    simp only [qe7, qbq, qx, qw, List.append_nil]
    have hV0 : qg Tryz.prog 41 [.int .i64 0] (encY (.mk [] 0 [])) := hV
    repeat' (first | refine vs_ ?_ | ((first | refine vr_ ?_ | fail) <;> (try simp (disch := first | omega | (simp only [List.length_set, List.length_append, List.length_cons, List.length_nil]; done) | (simp only [List.length_set, List.length_append, List.length_cons, List.length_nil]; omega)) only [qb, go_sem, ↓reduceIte])) | ((first | simp (disch := omega) only [hcap] | (refine cs_ ?_ ?_ <;> intro hc) | refine cj_ ?_ | simp (disch := omega) only [encs_getN, qb] | refine qa hV0 fun _ => ?_ | refine qc hV0 ?_) <;> (try refine ev_ ?_)) | with_reducible exact ti_)
    all_goals try (exfalso; omega)
    have hE1 : qj (vsI (0 + 1)) = [encY (.mk [] 0 [])] := by rw [hE]; rfl
    refine qh (0 + 1) [0, 1, 2, 3] ⟨by omega, by omega⟩ rfl (by simp) ?_ ?_ ?_ <;> simp only [hdSt, hE1, qdh, qdd, List.cons_append, List.nil_append] <;> (try refine ev_ ?_) <;> (try with_reducible exact ti_) <;> (try simp (disch := omega) only [qb, and_true, true_and])
    rfl
   ·have hne : qj (vsI i) ≠ [] := fun h => by have := congrArg List.length h; rw [qo, hv] at this; simp at this; omega
    simp only [qbw hne, qbv hne, qo, hv, List.cons_append, List.nil_append]
    repeat' (first | refine vs_ ?_ | ((first | refine vr_ ?_ | fail) <;> (try simp (disch := first | omega | (simp only [List.length_set, List.length_append, List.length_cons, List.length_nil]; done) | (simp only [List.length_set, List.length_append, List.length_cons, List.length_nil]; omega)) only [qb, qo, hv, go_sem, ↓reduceIte])) | ((first | simp (disch := omega) only [hcap] | (refine cs_ ?_ ?_ <;> intro hc) | refine cj_ ?_ | simp (disch := omega) only [encs_getN, qb] | refine qa hV fun _ => ?_ | refine qc hV ?_) <;> (try refine ev_ ?_)) | with_reducible exact ti_)
    all_goals try (exfalso; omega)
    refine qh (i + 1) [0, 1, 2, 4] ⟨by omega, by omega⟩ rfl (by simp) ?_ ?_ ?_ <;> simp only [hdSt, hE, qco, qcs, qo, hv, List.cons_append, List.nil_append] <;> (try refine ev_ ?_) <;> (try with_reducible exact ti_) <;> (try simp (disch := omega) only [qb, and_true, true_and])
    ·rw [← hE]; exact ⟨qbr _ _, by rw [qcq]⟩
    ·rw [qt (by omega) (by omega), Int.natCast_add]; rfl
  ·have him : i = m := by omega
   subst him
   have hH : qdo x = .mk x.con 0 (vsI i) := by rw [qgx, hm]
   have hfold : AV.agg [.str x.con, .int .i64 0, .sl 3 (qj (vsI i))] = encY (qdo x) := by rw [hH, encY]
   by_cases hi0 : i = 0
   ·subst hi0
    simp only [qe7, qbq, qx, qw, List.append_nil] at hfold ⊢
    refine qie 2 2 (.sl 3) rfl ?_
    simp only [List.getD_cons_succ, List.getD_cons_zero, q8, List.set_cons_zero, List.set_cons_succ]
    repeat' (first | refine vs_ ?_ | ((first | refine vr_ ?_ | fail) <;> (try simp only [hfold, go_sem, ↓reduceIte])) | ((first | simp (disch := omega) only [hfold] | (refine cs_ ?_ ?_ <;> intro hc) | refine cj_ ?_ | simp (disch := omega) only [encs_getN, qb]) <;> (try refine ev_ ?_)) | with_reducible exact ti_)
    all_goals try (exfalso; omega)
   ·have hne : qj (vsI i) ≠ [] := fun h => by have := congrArg List.length h; rw [qo, hv] at this; simp at this; omega
    simp only [qbw hne, qbv hne, qo, hv, List.cons_append, List.nil_append]
    refine qie 2 2 (.sl 3) rfl ?_
    simp only [List.getD_cons_succ, List.getD_cons_zero, List.set_cons_zero, List.set_cons_succ]
    repeat' (first | refine vs_ ?_ | ((first | refine vr_ ?_ | fail) <;> (try simp only [hv, hfold, go_sem, ↓reduceIte])) | ((first | simp (disch := omega) only [hfold] | (refine cs_ ?_ ?_ <;> intro hc) | refine cj_ ?_ | simp (disch := omega) only [encs_getN, qb]) <;> (try refine ev_ ?_)) | with_reducible exact ti_)
    all_goals try (exfalso; omega)
theorem qn4 {cls con : List UInt8} : ∀ (l : List Ins) (i k : Nat), fndI cls con (l.take i) k = if (fndI cls con l k).2 = true ∧ (fndI cls con l k).1 < (k + i : Nat) then fndI cls con l k else (0, false)
 | [], i, k => by simp [fndI]
 | x :: r, 0, k => by
   rw [List.take_zero, fndI, if_neg]
   rintro ⟨h1, h2⟩
   obtain ⟨j, h3, _⟩ := qll _ _ h1
   omega
 | x :: r, i + 1, k => by
   rw [List.take_succ_cons, fndI, fndI]
   split
   ·rw [if_pos ⟨rfl, by simp only; omega⟩]
   ·rw [qn4 r i (k + 1), show k + 1 + i = k + (i + 1) by omega]
theorem qx6 {cls con : List UInt8} : ∀ (l : List Ins) (k j : Nat), j < l.length → (l.getD j I0).cls = cls → (l.getD j I0).con = con → (fndI cls con l k).2 = true ∧ (fndI cls con l k).1 ≤ (k + j : Nat)
 | [], k, j, h, _, _ => by simp at h
 | x :: r, k, j, h, h1, h2 => by
   rw [fndI]
   split
   ·exact ⟨rfl, by simp only; omega⟩
   ·rename_i hx
    cases j with
    | zero => exact absurd ⟨h1, h2⟩ hx
    | succ j =>
      have := qx6 r (k + 1) j (by simpa using h) h1 h2
      refine ⟨this.1, by have := this.2; omega⟩
set_option maxHeartbeats 1000000 in
theorem qlm (l : List Ins) : qg Tryz.prog 9 [.sl 4 (qbo l)] (ovlA (ovlI l l.length 0)) := by
 refine qd c0dk (by simp) (by simp only [go_sem]) (by rfl) fun hw => ?_
 have hl := (qe6 hw.1).1
 repeat' (first | refine vs_ ?_ | ((first | refine vr_ ?_ | (refine cs_ ?_ ?_ <;> intro hc) | refine cj_ ?_ | simp (disch := omega) only [encs_getN, qb]) <;> (try refine ev_ ?_)) | with_reducible exact ti_)
 refine qm (S := Nat) (fun i => i ≤ l.length ∧ ovlI l (l.length - i) i = ovlI l l.length 0) (fun i => (⟨[(0, .sl 4 (qbo l)), (5, .int .i64 i)], []⟩, [])) (fun i => l.length - i) ?_ fun i hi => ?_
 ·refine qh 0 [] ⟨Nat.zero_le _, rfl⟩ rfl (by simp) ?_ ?_ ?_ <;> (try refine ev_ ?_) <;> (try with_reducible exact ti_) <;> (try simp (disch := omega) only [qb, and_true, true_and])
 ·obtain ⟨hi, ha⟩ := hi
  by_cases hlt : i < l.length
  ·have hg := qcl hlt
   rw [show l.length - i = (l.length - (i + 1)) + 1 by omega, ovlI] at ha
   have hF := qli l (l.getD i I0).cls (l.getD i I0).con
   have hT := qn4 (cls := (l.getD i I0).cls) (con := (l.getD i I0).con) l i 0
   obtain ⟨f1, f2⟩ := qx6 l 0 i hlt rfl rfl
   obtain ⟨j, hj, hjl, _⟩ := qll l 0 f1
   rw [Nat.zero_add] at hj
   rw [f1, hj] at hF
   by_cases hji : j < i
   ·rw [if_pos ⟨f1, by omega⟩] at hT
    rw [hT, if_pos f1, hj] at ha
    rw [← ha]
    repeat' (first | refine vs_ ?_ | ((first | refine vr_ ?_ | fail) <;> (try simp only [hg, go_sem, ↓reduceIte])) | ((first | simp (disch := omega) only [hg] | (refine cs_ ?_ ?_ <;> intro hc) | refine cj_ ?_ | simp (disch := omega) only [encs_getN, qb] | refine qa hF fun _ => ?_ | refine qc hF ?_) <;> (try refine ev_ ?_)) | with_reducible exact ti_)
    all_goals try (exfalso; omega)
    all_goals rfl
   ·rw [if_neg (by rintro ⟨_, h⟩; omega)] at hT
    rw [hT, if_neg (by simp)] at ha
    repeat' (first | refine vs_ ?_ | ((first | refine vr_ ?_ | fail) <;> (try simp only [hg, go_sem, ↓reduceIte])) | ((first | simp (disch := omega) only [hg] | (refine cs_ ?_ ?_ <;> intro hc) | refine cj_ ?_ | simp (disch := omega) only [encs_getN, qb] | refine qa hF fun _ => ?_ | refine qc hF ?_) <;> (try refine ev_ ?_)) | with_reducible exact ti_)
    all_goals try (exfalso; omega)
    refine qh (i + 1) [] ⟨⟨by omega, ha⟩, by omega⟩ rfl (by simp) ?_ ?_ ?_ <;> (try refine ev_ ?_) <;> (try with_reducible exact ti_) <;> (try simp (disch := omega) only [qb, and_true, true_and])
  ·have hie : i = l.length := by omega
   subst hie
   rw [Nat.sub_self, ovlI] at ha
   repeat' (first | refine vs_ ?_ | ((first | refine vr_ ?_ | (refine cs_ ?_ ?_ <;> intro hc) | refine cj_ ?_ | simp (disch := omega) only [encs_getN, qb]) <;> (try refine ev_ ?_)) | with_reducible exact ti_)
   all_goals try (exfalso; omega)
   all_goals (rw [← ha]; rfl)
theorem q2d {x : Ins} (h : chkI x = 0) : parW (decide ((qdo x).args ≠ [])) (txtY (qdo x)) = parW (decide (0 < x.n)) (qb4 (qdo x)) := by
 rw [qio (qg1 h)]
 congr 1
 have : (qdo x).args = vsI x.n.toNat := rfl
 rw [this]
 refine decide_eq_decide.2 ⟨fun h => ?_, fun h h0 => ?_⟩
 ·apply Classical.byContradiction
  intro hn
  exact h (by rw [show x.n.toNat = 0 by omega]; rfl)
 ·have := congrArg List.length h0
  rw [ql1, List.length_nil] at this
  omega
set_option maxHeartbeats 1000000 in
theorem qs3 {x : Ins} (hx : okI x) : qg Tryz.prog 15 [encI x] (.str (txtI x)) := by
 refine qd c0dl (by simp) (by simp only [go_sem]) rfl fun hw => ?_
 have hl := (qb7 (qjt hw.1).2.2.2).1
 have hC := qii x
 by_cases hch : chkI x = 0
 case neg =>
  have hd : decide (chkI x = 0) = false := decide_eq_false hch
  rw [txtI, if_neg hch]
  repeat' (first | refine vs_ ?_ | ((first | refine vr_ ?_ | fail) <;> (try simp only [hd, hch, go_sem, ↓reduceIte])) | ((first | (refine cs_ ?_ ?_ <;> intro hc) | refine cj_ ?_ | simp (disch := omega) only [encs_getN, qb] | refine qa hC fun _ => ?_ | refine qc hC ?_) <;> (try refine ev_ ?_)) | with_reducible exact ti_)
 rw [hch] at hC
 have hxd : hdI x = true := by
  rw [chkI] at hch
  split at hch
  ·rename_i h1; exact h1.1
  ·cases hch
 simp only [hdI, Bool.and_eq_true, decide_eq_true_eq] at hxd
 obtain ⟨_, _, hn0, hn1⟩ := hxd
 have hlg := qg1 hch
 obtain ⟨k1, k2, k3⟩ := hx
 have ht := qio hlg
 have hat := qd8 (qk5 _ (qcm hlg) (by rw [← ht]; omega)) (by rw [← ht]; omega)
 rw [q2d hch] at hat
 have hH := qsk (x := x) (by omega)
 have hP := qtr x.ps k1 (by omega)
 have hpw := (qc1 (decide (0 < x.n)) (qb4 (qdo x))).2
 obtain ⟨A, hA⟩ : ∃ A, parW (decide (0 < x.n)) (qb4 (qdo x)) = A := ⟨_, rfl⟩
 rw [hA] at hat hpw
 have hJl : (qfg x.ps).length ≤ (qce x.ps).length + 2 := by
  rw [qfg]; split
  ·split
   ·simp
   ·omega
  ·simp
 obtain ⟨B, hB⟩ : ∃ B, qfg x.ps = B := ⟨_, rfl⟩
 rw [hB] at hP hJl
 have m1 : B.length + 4 ≤ maxLen := ql (by omega)
 have m2 : 9 + (B.length + 4) ≤ maxLen := ql (by omega)
 repeat' (first | refine vs_ ?_ | ((first | refine vr_ ?_ | refine qa hC fun _ => ?_ | refine qa hP fun _ => ?_ | refine qa hH fun _ => ?_ | refine qa hat fun _ => ?_ | refine qc hC ?_ | refine qc hP ?_ | refine qc hH ?_ | refine qc hat ?_ | (refine cs_ ?_ ?_ <;> intro hc) | refine cj_ ?_ | simp (disch := omega) only [encs_getN, qb]) <;> (try refine ev_ ?_)) | with_reducible exact ti_)
 all_goals (refine ⟨ql (by omega), ql (by omega), ?_⟩)
 ·repeat' (first | refine vs_ ?_ | ((first | refine vr_ ?_ | refine qa hH fun _ => ?_ | refine qa hat fun _ => ?_ | refine qc hH ?_ | refine qc hat ?_ | (refine cs_ ?_ ?_ <;> intro hc) | refine cj_ ?_ | simp (disch := omega) only [encs_getN, qb]) <;> (try refine ev_ ?_)) | with_reducible exact ti_)
  refine ⟨ql (by omega), ?_⟩
  repeat' (first | refine vs_ ?_ | ((first | refine vr_ ?_ | (refine cs_ ?_ ?_ <;> intro hc) | refine cj_ ?_ | simp (disch := omega) only [encs_getN, qb]) <;> (try refine ev_ ?_)) | with_reducible exact ti_)
  have hz : x.ps ≠ [] := fun h0 => by have h0' := congrArg List.length h0; simp only [List.length_nil] at h0'; omega
  rw [txtI, if_pos hch, hA, hB, if_neg hz]
  simp only [insW, List.cons_append, List.nil_append, List.append_assoc]
 ·repeat' (first | refine vs_ ?_ | ((first | refine vr_ ?_ | refine qa hH fun _ => ?_ | refine qa hat fun _ => ?_ | refine qc hH ?_ | refine qc hat ?_ | (refine cs_ ?_ ?_ <;> intro hc) | refine cj_ ?_ | simp (disch := omega) only [encs_getN, qb]) <;> (try refine ev_ ?_)) | with_reducible exact ti_)
  refine ⟨ql (by omega), ?_⟩
  repeat' (first | refine vs_ ?_ | ((first | refine vr_ ?_ | (refine cs_ ?_ ?_ <;> intro hc) | refine cj_ ?_ | simp (disch := omega) only [encs_getN, qb]) <;> (try refine ev_ ?_)) | with_reducible exact ti_)
  have hz : x.ps = [] := List.length_eq_zero_iff.1 (by omega)
  rw [txtI, if_pos hch, hA, hB, if_pos hz]
  simp only [insW, List.cons_append, List.nil_append, List.append_assoc]
end Go.Proofs.YtbbjelfnocmaoaaGreat
