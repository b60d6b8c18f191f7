/- Texts of this proof, joined. -/
import Derived.Test.YtbbjelfnocmaoaaGreatAbi
import Derived.Test.YtbbjelfnocmaoaaGreatAbn
import Derived.Test.YtbbjelfnocmaoaaGreatAbf

/- instances' heads: the reference's walk -/
set_option maxRecDepth 4000
namespace Go.Proofs.YtbbjelfnocmaoaaGreat
open Go Go.RowKit Go.V
set_option linter.unusedVariables false
set_option linter.unusedSimpArgs false

set_option maxHeartbeats 1000000 in
theorem qbet (x : Ins) : qg Tryz.prog 13 [encI x] (.int .i64 (chkI x)) := by
 refine qc c0dc (by simp) (by simp only [go_sem]) rfl fun hw => ?_
 have hl := (qdt (qls hw.1).2.2.2).1
 unfold k0dc
 refine qci (qg5 ?_)
 (refine ev_ ?_; (try with_reducible exact ti_))
 refine qci ?_
 refine qhu (S := Unit) (fun _ => True) (fun _ => (⟨[(1, .ptr 0 0), (34, .bool (!hdI x))], []⟩, [.blk (idc x)])) ?_ fun _ _ => ?_
 ·repeat' (first | refine vs_ ?_ | ((first | refine vr_ ?_ | refine qa (qie _) fun _ => ?_ | (refine cs_ ?_ ?_ <;> intro hc) | refine cj_ ?_ | simp (disch := omega) only [encs_getN, qb]) <;> (try refine ev_ ?_)) | with_reducible exact ti_)
  all_goals (refine qi () [0] trivial rfl (by simp) ?_ ?_ ?_ <;> (try refine ev_ ?_) <;> (try with_reducible exact ti_) <;> (try simp (disch := omega) only [qb, and_true, true_and]))
  all_goals simp_all [hdI, arrW]
  by_cases h100 : x.n ≤ 100
  ·rw [decide_eq_true h100, decide_eq_false (by omega)]; rfl
  ·rw [decide_eq_false h100, decide_eq_true (by omega)]; rfl
 ·by_cases hx : hdI x = true
  case neg =>
   rw [Bool.not_eq_true] at hx
   rw [hx]
   repeat' (first | refine vs_ ?_ | ((first | refine vr_ ?_ | (refine cs_ ?_ ?_ <;> intro hc) | refine cj_ ?_ | simp (disch := omega) only [encs_getN, qb]) <;> (try refine ev_ ?_)) | with_reducible exact ti_)
   rw [chkI, if_neg (by simp [hx])]
  rw [hx]
  repeat' (first | refine vs_ ?_ | ((first | refine vr_ ?_ | (refine cs_ ?_ ?_ <;> intro hc) | refine cj_ ?_ | simp (disch := omega) only [encs_getN, qb]) <;> (try refine ev_ ?_)) | with_reducible exact ti_)
  refine qm (S := Nat) (fun i => i ≤ x.ps.length ∧ (x.ps.take i).all (plnI x.n) = true) (fun i => (⟨[(1, .ptr 0 0), (3, .int .i64 i)], []⟩, [.blk (idc x)])) (fun i => x.ps.length - i) ?_ fun i hi => ?_
  ·refine qi 0 [0] ⟨Nat.zero_le _, rfl⟩ rfl (by simp) ?_ ?_ ?_ <;> (try refine ev_ ?_) <;> (try with_reducible exact ti_) <;> (try simp (disch := omega) only [qb, and_true, true_and])
  ·obtain ⟨hi, ha⟩ := hi
   by_cases hlt : i < x.ps.length
   ·have hg := qbu hlt
    have hnx : (x.ps.take (i + 1)).all (plnI x.n) = plnI x.n (x.ps.getD i P0) := by
     rw [qgt hlt, List.all_append, ha]; simp
    have hno : plnI x.n (x.ps.getD i P0) = false → chkI x = 10 := fun h => by
     rw [chkI, if_neg]
     rintro ⟨_, h2⟩
     rw [List.all_eq_true.1 h2 _ (qfw hlt)] at h
     cases h
    generalize hp : x.ps.getD i P0 = p at hnx hno hg
    have hpn : plnI x.n p = (conW p.cls && (decide (p.ty.con = []) && (decide (p.ty.args.length = 0) && (decide (0 ≤ p.ty.var) && decide (p.ty.var < x.n))))) := rfl
    have hP := qie p.cls
    cases hq : plnI x.n p with
    | false =>
      rw [hno hq]
      rw [hq] at hpn
      repeat' (first | refine vs_ ?_ | ((first | refine vr_ ?_ | fail) <;> (try simp only [hg, go_sem, ↓reduceIte])) | ((first | simp (disch := omega) only [hg] | (refine cs_ ?_ ?_ <;> intro hc) | refine cj_ ?_ | simp (disch := omega) only [encs_getN, qb] | refine qa hP fun _ => ?_) <;> (try refine ev_ ?_)) | with_reducible exact ti_)
      all_goals try (exfalso; omega)
      exfalso
      simp_all
    | true =>
      have hqt := hq
      simp only [plnI, Bool.and_eq_true, decide_eq_true_eq] at hq
      obtain ⟨y1, y2, y3, y4, y5⟩ := hq
      rw [y1] at hP
      repeat' (first | refine vs_ ?_ | ((first | refine vr_ ?_ | fail) <;> (try simp only [hg, go_sem, ↓reduceIte])) | ((first | simp (disch := omega) only [hg] | (refine cs_ ?_ ?_ <;> intro hc) | refine cj_ ?_ | simp (disch := omega) only [encs_getN, qb] | refine qa hP fun _ => ?_) <;> (try refine ev_ ?_)) | with_reducible exact ti_)
      all_goals try (exfalso; first | omega | contradiction)
      refine qi (i + 1) [0] ⟨⟨by omega, hnx.trans hqt⟩, by omega⟩ rfl (by simp) ?_ ?_ ?_ <;> (try refine ev_ ?_) <;> (try with_reducible exact ti_) <;> (try simp (disch := omega) only [qb, and_true, true_and])
   ·have hie : i = x.ps.length := by omega
    subst hie
    rw [List.take_length] at ha
    have hch : chkI x = 0 := by rw [chkI, if_pos ⟨hx, ha⟩]
    rw [hch]
    repeat' (first | refine vs_ ?_ | ((first | refine vr_ ?_ | (refine cs_ ?_ ?_ <;> intro hc) | refine cj_ ?_ | simp (disch := omega) only [encs_getN, qb]) <;> (try refine ev_ ?_)) | with_reducible exact ti_)
    all_goals (exfalso; omega)
theorem qta (l : List Ins) (cls con : List UInt8) : qg Tryz.prog 11 [.sl 4 (qbn l), .str cls, .str con] (.tup [.int .i64 (fndI cls con l 0).1, .bool (fndI cls con l 0).2]) := by
 refine qc c0dd (by simp) (by simp only [go_sem]) rfl fun hw => ?_
 have hl := (qdz hw.1).1
 repeat' (first | refine vs_ ?_ | ((first | refine vr_ ?_ | (refine cs_ ?_ ?_ <;> intro hc) | refine cj_ ?_ | simp (disch := omega) only [encs_getN, qb]) <;> (try refine ev_ ?_)) | with_reducible exact ti_)
 refine qm (S := Nat) (fun i => i ≤ l.length ∧ fndI cls con (l.drop i) i = fndI cls con l 0) (fun i => (⟨[(0, .sl 4 (qbn l)), (1, .str cls), (2, .str con), (8, .int .i64 i)], []⟩, [])) (fun i => l.length - i) ?_ fun i hi => ?_
 ·refine qi 0 [] ⟨Nat.zero_le _, rfl⟩ rfl (by simp) ?_ ?_ ?_ <;> (try refine ev_ ?_) <;> (try with_reducible exact ti_) <;> (try simp (disch := omega) only [qb, and_true, true_and])
 ·obtain ⟨hi, ha⟩ := hi
  by_cases hlt : i < l.length
  ·have hg := qck hlt
   rw [qh4 hlt] at ha
   repeat' (first | refine vs_ ?_ | ((first | refine vr_ ?_ | fail) <;> (try simp (disch := first | omega | (simp only [List.length_set, List.length_append, List.length_cons, List.length_nil]; done) | (simp only [List.length_set, List.length_append, List.length_cons, List.length_nil]; omega)) only [hg, qb, go_sem, ↓reduceIte])) | ((first | simp (disch := omega) only [hg] | (refine cs_ ?_ ?_ <;> intro hc) | refine cj_ ?_ | simp (disch := omega) only [encs_getN, qb]) <;> (try refine ev_ ?_)) | with_reducible exact ti_)
   all_goals try (exfalso; omega)
   ·rw [if_pos ⟨by assumption, by assumption⟩] at ha
    rw [← ha]
   all_goals (rw [if_neg (by rintro ⟨a, b⟩; contradiction)] at ha)
   all_goals (refine qi (i + 1) [] ⟨⟨by omega, ha⟩, by omega⟩ rfl (by simp) ?_ ?_ ?_ <;> (try refine ev_ ?_) <;> (try with_reducible exact ti_) <;> (try simp (disch := omega) only [qb, and_true, true_and]))
  ·rw [qll (by omega)] at ha
   repeat' (first | refine vs_ ?_ | ((first | refine vr_ ?_ | (refine cs_ ?_ ?_ <;> intro hc) | refine cj_ ?_ | simp (disch := omega) only [encs_getN, qb]) <;> (try refine ev_ ?_)) | with_reducible exact ti_)
   all_goals first | (exfalso; omega) | (rw [← ha])
theorem qtm {x : Ins} {args : List Ty} (hs : smlI x) (hba : ∀ a ∈ args, szY a ≤ 20000 ∧ dpY a ≤ 300) (hal : args.length ≤ 20000) : qg Tryz.prog 36 [encI x, .sl 3 (ql args)] (.sl 4 (qu (prdR (qcf args 0 []) [] x.ps).1)) := by
 refine qc c0de (by simp) (by simp only [go_sem]) (by simp only [AV.bd, qce]) fun hw => ?_
 repeat' (first | refine vs_ ?_ | ((first | refine vr_ ?_ | (refine cs_ ?_ ?_ <;> intro hc) | refine cj_ ?_ | simp (disch := omega) only [encs_getN, qb]) <;> (try refine ev_ ?_)) | with_reducible exact ti_)
 refine qm (S := Nat) (fun i => i ≤ args.length) (fun i => (⟨[(1, .sl 3 (ql args)), (2, .ptr 0 0), (5, if i = 0 then .nils else .sl 4 (qbf (qcf (args.take i) 0 []))), (6, .int .i64 i)], []⟩, [.blk (idc x)])) (fun i => args.length - i) ?_ fun i hi => ?_
 ·refine qi 0 [0] (Nat.zero_le _) rfl (by simp) ?_ ?_ ?_ <;> (try refine ev_ ?_) <;> (try with_reducible exact ti_) <;> (try simp (disch := omega) only [qb, and_true, true_and])
 ·obtain ⟨ho, hlen⟩ := qlp (args.take i) 0 [] qk7
  rw [List.length_take, Nat.min_eq_left hi, List.length_nil, Nat.zero_add] at hlen
  by_cases hlt : i < args.length
  ·have hgy := qq hlt
   obtain ⟨q1, q2⟩ := hba _ (q6 hlt)
   have hS := qwq (s := qcf (args.take i) 0 []) (v := (i : Int)) (by omega) q1 q2
   have hR : rowA (setR (qcf (args.take i) 0 []) (i : Int) (args.getD i Y0)) = .tup [.sl 4 (qbf (qcf (args.take (i + 1)) 0 [])), .int .i64 (setR (qcf (args.take i) 0 []) (i : Int) (args.getD i Y0)).2] := by rw [qjy hlt]; rfl
   rw [hR] at hS
   by_cases hi0 : i = 0
   ·subst hi0
    have hS0 : qg Tryz.prog 59 [.sl 4 [], .int .i64 0, encY (args.getD 0 Y0)] _ := hS
    repeat' (first | refine vs_ ?_ | ((first | refine vr_ ?_ | fail) <;> (try simp (disch := first | omega | (simp only [List.length_set, List.length_append, List.length_cons, List.length_nil]; done) | (simp only [List.length_set, List.length_append, List.length_cons, List.length_nil]; omega)) only [hgy, qb, go_sem, ↓reduceIte])) | ((first | simp (disch := omega) only [hgy] | (refine cs_ ?_ ?_ <;> intro hc) | refine cj_ ?_ | simp (disch := omega) only [encs_getN, qb] | refine qa hS0 fun _ => ?_) <;> (try refine ev_ ?_)) | with_reducible exact ti_)
    all_goals try (exfalso; omega)
    refine qi (0 + 1) [0] ⟨by omega, by omega⟩ rfl (by simp) ?_ ?_ ?_ <;> (try refine ev_ ?_) <;> (try with_reducible exact ti_) <;> (try simp (disch := omega) only [qb, and_true, true_and])
    rfl
   ·simp only [hi0, if_false]
    repeat' (first | refine vs_ ?_ | ((first | refine vr_ ?_ | fail) <;> (try simp (disch := first | omega | (simp only [List.length_set, List.length_append, List.length_cons, List.length_nil]; done) | (simp only [List.length_set, List.length_append, List.length_cons, List.length_nil]; omega)) only [hgy, qb, go_sem, ↓reduceIte])) | ((first | simp (disch := omega) only [hgy] | (refine cs_ ?_ ?_ <;> intro hc) | refine cj_ ?_ | simp (disch := omega) only [encs_getN, qb] | refine qa hS fun _ => ?_) <;> (try refine ev_ ?_)) | with_reducible exact ti_)
    all_goals try (exfalso; omega)
    refine qi (i + 1) [0] ⟨by omega, by omega⟩ rfl (by simp) ?_ ?_ ?_ <;> (try refine ev_ ?_) <;> (try with_reducible exact ti_) <;> (try simp (disch := omega) only [qb, and_true, true_and])
    rw [qs (by omega) (by omega), Int.natCast_add]; rfl
  ·have hia : i = args.length := by omega
   subst hia
   rw [List.take_length] at ho hlen ⊢
   obtain ⟨r1, r2⟩ := hs
   have hP := qot ho r1 r2
   have hT : prdA (prdR (qcf args 0 []) [] x.ps) = .tup [.sl 4 (qu (prdR (qcf args 0 []) [] x.ps).1), .int .i64 (prdR (qcf args 0 []) [] x.ps).2] := rfl
   rw [hT] at hP
   by_cases hi0 : args = []
   ·subst hi0
    have hP0 : qg Tryz.prog 60 [.sl 4 [], .sl 4 (qu x.ps)] _ := hP
    repeat' (first | refine vs_ ?_ | ((first | refine vr_ ?_ | refine qa hP0 fun _ => ?_ | (refine cs_ ?_ ?_ <;> intro hc) | refine cj_ ?_ | simp (disch := omega) only [encs_getN, qb]) <;> (try refine ev_ ?_)) | with_reducible exact ti_)
    all_goals try (exfalso; omega)
    all_goals rfl
   ·have hne : ¬ args.length = 0 := fun h => hi0 (List.length_eq_zero_iff.1 h)
    simp only [hne, if_false]
    repeat' (first | refine vs_ ?_ | ((first | refine vr_ ?_ | refine qa hP fun _ => ?_ | (refine cs_ ?_ ?_ <;> intro hc) | refine cj_ ?_ | simp (disch := omega) only [encs_getN, qb]) <;> (try refine ev_ ?_)) | with_reducible exact ti_)
    all_goals try (exfalso; omega)
    all_goals rfl
set_option maxHeartbeats 1000000 in
theorem qya {l : List Ins} {p : Pd} (hs : ∀ x ∈ l, smlI x) (h1 : szY p.ty ≤ 20000) (h2 : dpY p.ty ≤ 300) : qg Tryz.prog 18 [.sl 4 (qbn l), encP p] (byA (byI l p)) := by
 refine qc c0df (by simp) (by simp only [go_sem]) (by simp only [byA, AV.bd, AV.bds, qce, Bool.and_true]) fun hw => ?_
 have hl := (qdz hw.1).1
 have hF := qta l p.cls p.ty.con
 have hko := qbz (qxp hw.2.1).2
 by_cases hc : p.ty.con = []
 ·rw [qt8 hc]
  repeat' (first | refine vs_ ?_ | ((first | refine vr_ ?_ | fail) <;> (try simp only [hc, go_sem, ↓reduceIte])) | ((first | (refine cs_ ?_ ?_ <;> intro hc) | refine cj_ ?_ | simp (disch := omega) only [encs_getN, qb]) <;> (try refine ev_ ?_)) | with_reducible exact ti_)
  all_goals rfl
 cases hf : (fndI p.cls p.ty.con l 0).2 with
 | false =>
   rw [hf] at hF
   rw [qxg hf]
   repeat' (first | refine vs_ ?_ | ((first | refine vr_ ?_ | fail) <;> (try simp only [hc, go_sem, ↓reduceIte])) | ((first | (refine cs_ ?_ ?_ <;> intro hc) | refine cj_ ?_ | simp (disch := omega) only [encs_getN, qb] | refine qa hF fun _ => ?_ | refine qe hF ?_) <;> (try refine ev_ ?_)) | with_reducible exact ti_)
   all_goals rfl
 | true =>
   obtain ⟨j, hj, hjl, hj1, hj2⟩ := qph l 0 hf
   rw [Nat.zero_add] at hj
   rw [hf, hj] at hF
   have hg := qck hjl
   by_cases hn : (l.getD j I0).n = p.ty.args.length
   case neg =>
    rw [qun hj hn]
    repeat' (first | refine vs_ ?_ | ((first | refine vr_ ?_ | fail) <;> (try simp only [hc, hg, hn, go_sem, ↓reduceIte])) | ((first | simp (disch := omega) only [hg] | (refine cs_ ?_ ?_ <;> intro hc) | refine cj_ ?_ | simp (disch := omega) only [encs_getN, qb] | refine qa hF fun _ => ?_ | refine qe hF ?_) <;> (try refine ev_ ?_)) | with_reducible exact ti_)
    all_goals rfl
   rw [qtt hf hj hc hn]
   have hW := qtm (x := l.getD j I0) (args := p.ty.args) (hs _ (qh2 hjl)) (fun a ha => by
    have q1 := qeh ha
    have q2 := qk5 ha
    rw [qd6] at h1
    rw [qn1] at h2
    omega) (by
    have := qex p.ty.args
    rw [qd6] at h1
    omega)
   repeat' (first | refine vs_ ?_ | ((first | refine vr_ ?_ | fail) <;> (try simp only [hc, hg, hn, go_sem, ↓reduceIte])) | ((first | simp (disch := omega) only [hg] | (refine cs_ ?_ ?_ <;> intro hc) | refine cj_ ?_ | simp (disch := omega) only [encs_getN, qb] | refine qa hF fun _ => ?_ | refine qa hW fun _ => ?_ | refine qe hF ?_ | refine qe hW ?_) <;> (try refine ev_ ?_)) | with_reducible exact ti_)
   all_goals rfl

end Go.Proofs.YtbbjelfnocmaoaaGreat
