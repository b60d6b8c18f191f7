/- Texts of this proof, joined. -/
import Derived.Test.YtbbjelfnocmaoaaGreatBbj
import Derived.Test.YtbbjelfnocmaoaaGreatBbo
import Derived.Test.YtbbjelfnocmaoaaGreatBbf

/- instances' heads: the reference's walk -/
set_option maxRecDepth 4000
namespace Go.Proofs.YtbbjelfnocmaoaaGreat
open Go Go.RowKit Go.V
set_option linter.unusedVariables false
set_option linter.unusedSimpArgs false

set_option maxHeartbeats 1000000 in
theorem qqh (x : Ins) : qj Tryz.prog 13 [encI x] (.int .i64 (chkI x)) := by
 refine qd c0dd (by simp) (by simp only [go_sem]) rfl fun hw => ?_
 have hl := (qdi (qje hw.1).2.2.2).1
 unfold k0dd
 refine qb5 (qef ?_)
 (refine ev_ ?_; (try with_reducible exact ti_))
 refine qb5 ?_
 refine qdu (S := Unit) (fun _ => True) (fun _ => (⟨[(1, .ptr 0 0), (34, .bool (!hdI x))], []⟩, [.blk (idc x)])) ?_ fun _ _ => ?_
 ·repeat' (first | refine vs_ ?_ | ((first | refine vr_ ?_ | refine qa (qi6 _) fun _ => ?_ | (refine cs_ ?_ ?_ <;> intro hc) | refine cj_ ?_ | simp (disch := omega) only [encs_getN, qb]) <;> (try refine ev_ ?_)) | with_reducible exact ti_)
  all_goals (refine qh () [0] trivial rfl (by simp) ?_ ?_ ?_ <;> (try refine ev_ ?_) <;> (try with_reducible exact ti_) <;> (try simp (disch := omega) only [qb, and_true, true_and]))
  all_goals simp_all [hdI, arrW]
  by_cases h100 : x.n ≤ 100
  ·rw [decide_eq_true h100, decide_eq_false (by omega)]; rfl
  ·rw [decide_eq_false h100, decide_eq_true (by omega)]; rfl
 ·by_cases hx : hdI x = true
  case neg =>
   rw [Bool.not_eq_true] at hx
   rw [hx]
   repeat' (first | refine vs_ ?_ | ((first | refine vr_ ?_ | (refine cs_ ?_ ?_ <;> intro hc) | refine cj_ ?_ | simp (disch := omega) only [encs_getN, qb]) <;> (try refine ev_ ?_)) | with_reducible exact ti_)
   rw [chkI, if_neg (by simp [hx])]
  rw [hx]
  repeat' (first | refine vs_ ?_ | ((first | refine vr_ ?_ | (refine cs_ ?_ ?_ <;> intro hc) | refine cj_ ?_ | simp (disch := omega) only [encs_getN, qb]) <;> (try refine ev_ ?_)) | with_reducible exact ti_)
  refine qo (S := Nat) (fun i => i ≤ x.ps.length ∧ (x.ps.take i).all (plnI x.n) = true) (fun i => (⟨[(1, .ptr 0 0), (3, .int .i64 i)], []⟩, [.blk (idc x)])) (fun i => x.ps.length - i) ?_ fun i hi => ?_
  ·refine qh 0 [0] ⟨Nat.zero_le _, rfl⟩ rfl (by simp) ?_ ?_ ?_ <;> (try refine ev_ ?_) <;> (try with_reducible exact ti_) <;> (try simp (disch := omega) only [qb, and_true, true_and])
  ·obtain ⟨hi, ha⟩ := hi
   by_cases hlt : i < x.ps.length
   ·have hg := qbr hlt
    have hnx : (x.ps.take (i + 1)).all (plnI x.n) = plnI x.n (x.ps.getD i P0) := by
     rw [qg9 hlt, List.all_append, ha]; simp
    have hno : plnI x.n (x.ps.getD i P0) = false → chkI x = 10 := fun h => by
     rw [chkI, if_neg]
     rintro ⟨_, h2⟩
     rw [List.all_eq_true.1 h2 _ (qfb hlt)] at h
     cases h
    generalize hp : x.ps.getD i P0 = p at hnx hno hg
    have hpn : plnI x.n p = (conW p.cls && (decide (p.ty.con = []) && (decide (p.ty.args.length = 0) && (decide (0 ≤ p.ty.var) && decide (p.ty.var < x.n))))) := rfl
    have hP := qi6 p.cls
    cases hq : plnI x.n p with
    | false =>
      rw [hno hq]
      rw [hq] at hpn
      repeat' (first | refine vs_ ?_ | ((first | refine vr_ ?_ | fail) <;> (try simp only [hg, go_sem, ↓reduceIte])) | ((first | simp (disch := omega) only [hg] | (refine cs_ ?_ ?_ <;> intro hc) | refine cj_ ?_ | simp (disch := omega) only [encs_getN, qb] | refine qa hP fun _ => ?_) <;> (try refine ev_ ?_)) | with_reducible exact ti_)
      all_goals try (exfalso; omega)
      exfalso
      simp_all
    | true =>
      have hqt := hq
      simp only [plnI, Bool.and_eq_true, decide_eq_true_eq] at hq
      obtain ⟨y1, y2, y3, y4, y5⟩ := hq
      rw [y1] at hP
      repeat' (first | refine vs_ ?_ | ((first | refine vr_ ?_ | fail) <;> (try simp only [hg, go_sem, ↓reduceIte])) | ((first | simp (disch := omega) only [hg] | (refine cs_ ?_ ?_ <;> intro hc) | refine cj_ ?_ | simp (disch := omega) only [encs_getN, qb] | refine qa hP fun _ => ?_) <;> (try refine ev_ ?_)) | with_reducible exact ti_)
      all_goals try (exfalso; first | omega | contradiction)
      refine qh (i + 1) [0] ⟨⟨by omega, hnx.trans hqt⟩, by omega⟩ rfl (by simp) ?_ ?_ ?_ <;> (try refine ev_ ?_) <;> (try with_reducible exact ti_) <;> (try simp (disch := omega) only [qb, and_true, true_and])
   ·have hie : i = x.ps.length := by omega
    subst hie
    rw [List.take_length] at ha
    have hch : chkI x = 0 := by rw [chkI, if_pos ⟨hx, ha⟩]
    rw [hch]
    repeat' (first | refine vs_ ?_ | ((first | refine vr_ ?_ | (refine cs_ ?_ ?_ <;> intro hc) | refine cj_ ?_ | simp (disch := omega) only [encs_getN, qb]) <;> (try refine ev_ ?_)) | with_reducible exact ti_)
    all_goals (exfalso; omega)
theorem qsr (l : List Ins) (cls con : List UInt8) : qj Tryz.prog 11 [.sl 4 (qbo l), .str cls, .str con] (.tup [.int .i64 (fndI cls con l 0).1, .bool (fndI cls con l 0).2]) := by
 refine qd c0de (by simp) (by simp only [go_sem]) rfl fun hw => ?_
 have hl := (qdp hw.1).1
 repeat' (first | refine vs_ ?_ | ((first | refine vr_ ?_ | (refine cs_ ?_ ?_ <;> intro hc) | refine cj_ ?_ | simp (disch := omega) only [encs_getN, qb]) <;> (try refine ev_ ?_)) | with_reducible exact ti_)
 refine qo (S := Nat) (fun i => i ≤ l.length ∧ fndI cls con (l.drop i) i = fndI cls con l 0) (fun i => (⟨[(0, .sl 4 (qbo l)), (1, .str cls), (2, .str con), (8, .int .i64 i)], []⟩, [])) (fun i => l.length - i) ?_ fun i hi => ?_
 ·refine qh 0 [] ⟨Nat.zero_le _, rfl⟩ rfl (by simp) ?_ ?_ ?_ <;> (try refine ev_ ?_) <;> (try with_reducible exact ti_) <;> (try simp (disch := omega) only [qb, and_true, true_and])
 ·obtain ⟨hi, ha⟩ := hi
  by_cases hlt : i < l.length
  ·have hg := qci hlt
   rw [qj5 hlt] at ha
   repeat' (first | refine vs_ ?_ | ((first | refine vr_ ?_ | fail) <;> (try simp (disch := first | omega | (simp only [List.length_set, List.length_append, List.length_cons, List.length_nil]; done) | (simp only [List.length_set, List.length_append, List.length_cons, List.length_nil]; omega)) only [hg, qb, go_sem, ↓reduceIte])) | ((first | simp (disch := omega) only [hg] | (refine cs_ ?_ ?_ <;> intro hc) | refine cj_ ?_ | simp (disch := omega) only [encs_getN, qb]) <;> (try refine ev_ ?_)) | with_reducible exact ti_)
   all_goals try (exfalso; omega)
   ·rw [if_pos ⟨by assumption, by assumption⟩] at ha
    rw [← ha]
   all_goals (rw [if_neg (by rintro ⟨a, b⟩; contradiction)] at ha)
   all_goals (refine qh (i + 1) [] ⟨⟨by omega, ha⟩, by omega⟩ rfl (by simp) ?_ ?_ ?_ <;> (try refine ev_ ?_) <;> (try with_reducible exact ti_) <;> (try simp (disch := omega) only [qb, and_true, true_and]))
  ·rw [qlo (by omega)] at ha
   repeat' (first | refine vs_ ?_ | ((first | refine vr_ ?_ | (refine cs_ ?_ ?_ <;> intro hc) | refine cj_ ?_ | simp (disch := omega) only [encs_getN, qb]) <;> (try refine ev_ ?_)) | with_reducible exact ti_)
   all_goals first | (exfalso; omega) | (rw [← ha])
theorem quy {x : Ins} {args : List Ty} (hs : smlI x) (hba : ∀ a ∈ args, szY a ≤ 20000 ∧ dpY a ≤ 300) (hal : args.length ≤ 20000) : qj Tryz.prog 36 [encI x, .sl 3 (qi args)] (.sl 4 (qy (prdR (qbp args 0 []) [] x.ps).1)) := by
 refine qd c0df (by simp) (by simp only [go_sem]) (by simp only [AV.bd, qcj]) fun hw => ?_
 repeat' (first | refine vs_ ?_ | ((first | refine vr_ ?_ | (refine cs_ ?_ ?_ <;> intro hc) | refine cj_ ?_ | simp (disch := omega) only [encs_getN, qb]) <;> (try refine ev_ ?_)) | with_reducible exact ti_)
 refine qo (S := Nat) (fun i => i ≤ args.length) (fun i => (⟨[(1, .sl 3 (qi args)), (2, .ptr 0 0), (5, if i = 0 then .nils else .sl 4 (qbh (qbp (args.take i) 0 []))), (6, .int .i64 i)], []⟩, [.blk (idc x)])) (fun i => args.length - i) ?_ fun i hi => ?_
 ·refine qh 0 [0] (Nat.zero_le _) rfl (by simp) ?_ ?_ ?_ <;> (try refine ev_ ?_) <;> (try with_reducible exact ti_) <;> (try simp (disch := omega) only [qb, and_true, true_and])
 ·obtain ⟨ho, hlen⟩ := qh6 (args.take i) 0 [] qg8
  rw [List.length_take, Nat.min_eq_left hi, List.length_nil, Nat.zero_add] at hlen
  by_cases hlt : i < args.length
  ·have hgy := qu hlt
   obtain ⟨q1, q2⟩ := hba _ (qx hlt)
   have hS := qvo (s := qbp (args.take i) 0 []) (v := (i : Int)) (by omega) q1 q2
   have hR : rowA (setR (qbp (args.take i) 0 []) (i : Int) (args.getD i Y0)) = .tup [.sl 4 (qbh (qbp (args.take (i + 1)) 0 [])), .int .i64 (setR (qbp (args.take i) 0 []) (i : Int) (args.getD i Y0)).2] := by rw [qkk hlt]; rfl
   rw [hR] at hS
   by_cases hi0 : i = 0
   ·subst hi0
    have hS0 : qj Tryz.prog 59 [.sl 4 [], .int .i64 0, encY (args.getD 0 Y0)] _ := hS
    repeat' (first | refine vs_ ?_ | ((first | refine vr_ ?_ | fail) <;> (try simp (disch := first | omega | (simp only [List.length_set, List.length_append, List.length_cons, List.length_nil]; done) | (simp only [List.length_set, List.length_append, List.length_cons, List.length_nil]; omega)) only [hgy, qb, go_sem, ↓reduceIte])) | ((first | simp (disch := omega) only [hgy] | (refine cs_ ?_ ?_ <;> intro hc) | refine cj_ ?_ | simp (disch := omega) only [encs_getN, qb] | refine qa hS0 fun _ => ?_) <;> (try refine ev_ ?_)) | with_reducible exact ti_)
    all_goals try (exfalso; omega)
    refine qh (0 + 1) [0] ⟨by omega, by omega⟩ rfl (by simp) ?_ ?_ ?_ <;> (try refine ev_ ?_) <;> (try with_reducible exact ti_) <;> (try simp (disch := omega) only [qb, and_true, true_and])
    rfl
   ·simp only [hi0, if_false]
    repeat' (first | refine vs_ ?_ | ((first | refine vr_ ?_ | fail) <;> (try simp (disch := first | omega | (simp only [List.length_set, List.length_append, List.length_cons, List.length_nil]; done) | (simp only [List.length_set, List.length_append, List.length_cons, List.length_nil]; omega)) only [hgy, qb, go_sem, ↓reduceIte])) | ((first | simp (disch := omega) only [hgy] | (refine cs_ ?_ ?_ <;> intro hc) | refine cj_ ?_ | simp (disch := omega) only [encs_getN, qb] | refine qa hS fun _ => ?_) <;> (try refine ev_ ?_)) | with_reducible exact ti_)
    all_goals try (exfalso; omega)
    refine qh (i + 1) [0] ⟨by omega, by omega⟩ rfl (by simp) ?_ ?_ ?_ <;> (try refine ev_ ?_) <;> (try with_reducible exact ti_) <;> (try simp (disch := omega) only [qb, and_true, true_and])
    rw [qw (by omega) (by omega), Int.natCast_add]; rfl
  ·have hia : i = args.length := by omega
   subst hia
   rw [List.take_length] at ho hlen ⊢
   obtain ⟨r1, r2⟩ := hs
   have hP := qpb ho r1 r2
   have hT : prdA (prdR (qbp args 0 []) [] x.ps) = .tup [.sl 4 (qy (prdR (qbp args 0 []) [] x.ps).1), .int .i64 (prdR (qbp args 0 []) [] x.ps).2] := rfl
   rw [hT] at hP
   by_cases hi0 : args = []
   ·subst hi0
    have hP0 : qj Tryz.prog 60 [.sl 4 [], .sl 4 (qy x.ps)] _ := hP
    repeat' (first | refine vs_ ?_ | ((first | refine vr_ ?_ | refine qa hP0 fun _ => ?_ | (refine cs_ ?_ ?_ <;> intro hc) | refine cj_ ?_ | simp (disch := omega) only [encs_getN, qb]) <;> (try refine ev_ ?_)) | with_reducible exact ti_)
    all_goals try (exfalso; omega)
    all_goals rfl
   ·have hne : ¬ args.length = 0 := fun h => hi0 (List.length_eq_zero_iff.1 h)
    simp only [hne, if_false]
    repeat' (first | refine vs_ ?_ | ((first | refine vr_ ?_ | refine qa hP fun _ => ?_ | (refine cs_ ?_ ?_ <;> intro hc) | refine cj_ ?_ | simp (disch := omega) only [encs_getN, qb]) <;> (try refine ev_ ?_)) | with_reducible exact ti_)
    all_goals try (exfalso; omega)
    all_goals rfl
set_option maxHeartbeats 1000000 in
theorem qzw {l : List Ins} {p : Pd} (hs : ∀ x ∈ l, smlI x) (h1 : szY p.ty ≤ 20000) (h2 : dpY p.ty ≤ 300) : qj Tryz.prog 18 [.sl 4 (qbo l), encP p] (byA (byI l p)) := by
 refine qd c0dg (by simp) (by simp only [go_sem]) (by simp only [byA, AV.bd, AV.bds, qcj, Bool.and_true]) fun hw => ?_
 have hl := (qdp hw.1).1
 have hF := qsr l p.cls p.ty.con
 have hko := qb6 (qu2 hw.2.1).2
 by_cases hc : p.ty.con = []
 ·rw [qqi hc]
  repeat' (first | refine vs_ ?_ | ((first | refine vr_ ?_ | fail) <;> (try simp only [hc, go_sem, ↓reduceIte])) | ((first | (refine cs_ ?_ ?_ <;> intro hc) | refine cj_ ?_ | simp (disch := omega) only [encs_getN, qb]) <;> (try refine ev_ ?_)) | with_reducible exact ti_)
  all_goals rfl
 cases hf : (fndI p.cls p.ty.con l 0).2 with
 | false =>
   rw [hf] at hF
   rw [qqj hf]
   repeat' (first | refine vs_ ?_ | ((first | refine vr_ ?_ | fail) <;> (try simp only [hc, go_sem, ↓reduceIte])) | ((first | (refine cs_ ?_ ?_ <;> intro hc) | refine cj_ ?_ | simp (disch := omega) only [encs_getN, qb] | refine qa hF fun _ => ?_ | refine qc hF ?_) <;> (try refine ev_ ?_)) | with_reducible exact ti_)
   all_goals rfl
 | true =>
   obtain ⟨j, hj, hjl, hj1, hj2⟩ := qlq l 0 hf
   rw [Nat.zero_add] at hj
   rw [hf, hj] at hF
   have hg := qci hjl
   by_cases hn : (l.getD j I0).n = p.ty.args.length
   case neg =>
    rw [qpd hj hn]
    repeat' (first | refine vs_ ?_ | ((first | refine vr_ ?_ | fail) <;> (try simp only [hc, hg, hn, go_sem, ↓reduceIte])) | ((first | simp (disch := omega) only [hg] | (refine cs_ ?_ ?_ <;> intro hc) | refine cj_ ?_ | simp (disch := omega) only [encs_getN, qb] | refine qa hF fun _ => ?_ | refine qc hF ?_) <;> (try refine ev_ ?_)) | with_reducible exact ti_)
    all_goals rfl
   rw [qpi hf hj hc hn]
   have hW := quy (x := l.getD j I0) (args := p.ty.args) (hs _ (qgh hjl)) (fun a ha => by
    have q1 := qdc ha
    have q2 := qhm ha
    rw [qcw] at h1
    rw [qji] at h2
    omega) (by
    have := qfa p.ty.args
    rw [qcw] at h1
    omega)
   repeat' (first | refine vs_ ?_ | ((first | refine vr_ ?_ | fail) <;> (try simp only [hc, hg, hn, go_sem, ↓reduceIte])) | ((first | simp (disch := omega) only [hg] | (refine cs_ ?_ ?_ <;> intro hc) | refine cj_ ?_ | simp (disch := omega) only [encs_getN, qb] | refine qa hF fun _ => ?_ | refine qa hW fun _ => ?_ | refine qc hF ?_ | refine qc hW ?_) <;> (try refine ev_ ?_)) | with_reducible exact ti_)
   all_goals rfl
theorem q9o (v : Int) : qj Tryz.prog 41 [.int .i64 v] (encY (.mk [] v [])) := by
 refine qd c0dh (by simp) (by simp only [go_sem]) (qbg 0 _) fun hw => ?_
 repeat' (first | refine vs_ ?_ | ((first | refine vr_ ?_ | (refine cs_ ?_ ?_ <;> intro hc) | refine cj_ ?_ | fail) <;> (try refine ev_ ?_)) | with_reducible exact ti_)
 all_goals (simp only [encY, qi])
def hdSt (x : Ins) (i : Nat) : AF × List Ent := (⟨[(1, .ptr 0 0), (2, .ptr 1 0), (3, .ptr 2 0), (4, .int .i64 i)], []⟩, [.blk (idc x), .blk [.str [], .int .i64 0, .nils], .blk [.str x.con, .int .i64 0, accV 3 (qi (vsI i))]] ++ accE 3 (qi (vsI i)))
set_option maxHeartbeats 1000000 in
theorem quk {x : Ins} (hn1 : x.n ≤ 200) : qj Tryz.prog 22 [encI x] (encY (qeu x)) := by
 refine qd c0di (by simp) (by simp only [go_sem]) (qbg 0 _) fun hw => ?_
 obtain ⟨m, hm⟩ : ∃ m : Nat, x.n.toNat = m := ⟨_, rfl⟩
 have hm1 : m ≤ 200 := by omega
 repeat' (first | refine vs_ ?_ | ((first | refine vr_ ?_ | (refine cs_ ?_ ?_ <;> intro hc) | refine cj_ ?_ | simp (disch := omega) only [encs_getN, qb]) <;> (try refine ev_ ?_)) | with_reducible exact ti_)
 refine qo (S := Nat) (fun i => i ≤ m) (hdSt x) (fun i => m - i) ?_ fun i hi => ?_
 ·refine qh 0 [0, 1, 2] (Nat.zero_le _) rfl (by simp) ?_ ?_ ?_ <;> simp only [hdSt, qe7, qbt, q6, qz, List.append_nil] <;> (try refine ev_ ?_) <;> (try with_reducible exact ti_) <;> (try simp (disch := omega) only [qb, and_true, true_and])
 ·unfold hdSt
  have hv := qve i
  by_cases hlt : i < m
  ·have hE : qi (vsI (i + 1)) = qi (vsI i) ++ [encY (.mk [] i [])] := by rw [qq1, ← qc9]
   have hcap : qbv (i + 1) 48 = True := eq_true (by unfold qbv; omega)
   have hV := q9o i
   by_cases hi0 : i = 0
   ·subst hi0
    simp only [qe7, qbt, q6, qz, List.append_nil]
    have hV0 : qj Tryz.prog 41 [.int .i64 0] (encY (.mk [] 0 [])) := hV
    repeat' (first | refine vs_ ?_ | ((first | refine vr_ ?_ | fail) <;> (try simp (disch := first | omega | (simp only [List.length_set, List.length_append, List.length_cons, List.length_nil]; done) | (simp only [List.length_set, List.length_append, List.length_cons, List.length_nil]; omega)) only [qb, go_sem, ↓reduceIte])) | ((first | simp (disch := omega) only [hcap] | (refine cs_ ?_ ?_ <;> intro hc) | refine cj_ ?_ | simp (disch := omega) only [encs_getN, qb] | refine qa hV0 fun _ => ?_ | refine qc hV0 ?_) <;> (try refine ev_ ?_)) | with_reducible exact ti_)
    all_goals try (exfalso; omega)
    have hE1 : qi (vsI (0 + 1)) = [encY (.mk [] 0 [])] := by rw [hE]; rfl
    refine qh (0 + 1) [0, 1, 2, 3] ⟨by omega, by omega⟩ rfl (by simp) ?_ ?_ ?_ <;> simp only [hdSt, hE1, qdj, qdk, List.cons_append, List.nil_append] <;> (try refine ev_ ?_) <;> (try with_reducible exact ti_) <;> (try simp (disch := omega) only [qb, and_true, true_and])
    rfl
   ·have hne : qi (vsI i) ≠ [] := fun h => by have := congrArg List.length h; rw [qn, hv] at this; simp at this; omega
    simp only [qb1 hne, qb0 hne, qn, hv, List.cons_append, List.nil_append]
    repeat' (first | refine vs_ ?_ | ((first | refine vr_ ?_ | fail) <;> (try simp (disch := first | omega | (simp only [List.length_set, List.length_append, List.length_cons, List.length_nil]; done) | (simp only [List.length_set, List.length_append, List.length_cons, List.length_nil]; omega)) only [qb, qn, hv, go_sem, ↓reduceIte])) | ((first | simp (disch := omega) only [hcap] | (refine cs_ ?_ ?_ <;> intro hc) | refine cj_ ?_ | simp (disch := omega) only [encs_getN, qb] | refine qa hV fun _ => ?_ | refine qc hV ?_) <;> (try refine ev_ ?_)) | with_reducible exact ti_)
    all_goals try (exfalso; omega)
    refine qh (i + 1) [0, 1, 2, 4] ⟨by omega, by omega⟩ rfl (by simp) ?_ ?_ ?_ <;> simp only [hdSt, hE, qcs, qcq, qn, hv, List.cons_append, List.nil_append] <;> (try refine ev_ ?_) <;> (try with_reducible exact ti_) <;> (try simp (disch := omega) only [qb, and_true, true_and])
    ·rw [← hE]; exact ⟨qbs _ _, by rw [qct]⟩
    ·rw [qw (by omega) (by omega), Int.natCast_add]; rfl
  ·have him : i = m := by omega
   subst him
   have hH : qeu x = .mk x.con 0 (vsI i) := by rw [qsh, hm]
   have hfold : AV.agg [.str x.con, .int .i64 0, .sl 3 (qi (vsI i))] = encY (qeu x) := by rw [hH, encY]
   by_cases hi0 : i = 0
   ·subst hi0
    simp only [qe7, qbt, q6, qz, List.append_nil] at hfold ⊢
    refine qj3 2 2 (.sl 3) rfl ?_
    simp only [List.getD_cons_succ, List.getD_cons_zero, qba, List.set_cons_zero, List.set_cons_succ]
    repeat' (first | refine vs_ ?_ | ((first | refine vr_ ?_ | fail) <;> (try simp only [hfold, go_sem, ↓reduceIte])) | ((first | simp (disch := omega) only [hfold] | (refine cs_ ?_ ?_ <;> intro hc) | refine cj_ ?_ | simp (disch := omega) only [encs_getN, qb]) <;> (try refine ev_ ?_)) | with_reducible exact ti_)
    all_goals try (exfalso; omega)
   ·have hne : qi (vsI i) ≠ [] := fun h => by have := congrArg List.length h; rw [qn, hv] at this; simp at this; omega
    simp only [qb1 hne, qb0 hne, qn, hv, List.cons_append, List.nil_append]
    refine qj3 2 2 (.sl 3) rfl ?_
    simp only [List.getD_cons_succ, List.getD_cons_zero, List.set_cons_zero, List.set_cons_succ]
    repeat' (first | refine vs_ ?_ | ((first | refine vr_ ?_ | fail) <;> (try simp only [hv, hfold, go_sem, ↓reduceIte])) | ((first | simp (disch := omega) only [hfold] | (refine cs_ ?_ ?_ <;> intro hc) | refine cj_ ?_ | simp (disch := omega) only [encs_getN, qb]) <;> (try refine ev_ ?_)) | with_reducible exact ti_)
    all_goals try (exfalso; omega)

theorem qxt (s : List Pr) : ∀ (a acc : List Pd), (prdR s acc a).1.length ≤ acc.length + a.length
 | [], acc => by simp [prdR]
 | p :: r, acc => by
   rw [prdR]
   split
   ·have := qxt s r (acc ++ [⟨p.cls, (appR s p.ty).1⟩])
    rw [List.length_append] at this
    simp only [List.length_cons, List.length_nil] at this ⊢
    omega
   ·simp
end Go.Proofs.YtbbjelfnocmaoaaGreat
