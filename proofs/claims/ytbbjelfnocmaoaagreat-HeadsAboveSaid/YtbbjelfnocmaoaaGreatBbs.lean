/- A text of this proof. -/
import Derived.Test.YtbbjelfnocmaoaaGreatBbo
import Derived.Test.YtbbjelfnocmaoaaGreatBbp
import Derived.Test.YtbbjelfnocmaoaaGreatBbr

/- instances' heads: the laws -/
set_option maxRecDepth 4000
namespace Go.Proofs.YtbbjelfnocmaoaaGreat
open Go Go.RowKit Go.V
set_option linter.unusedVariables false
set_option linter.unusedSimpArgs false

theorem quu (l : List Pd) : qj Tryz.prog 19 [.sl 4 (qy l), .sl 4 (qy l)] (.bool true) := by
 have := qti l l
 rwa [(qj7 l l).2 rfl] at this
set_option maxHeartbeats 2000000 in
theorem qbix (l : List Ins) (p : Pd) : qj Tryz.prog 4 [.sl 4 (qbo l), encP p] (.bool true) := by
 refine qd c0a (by simp) (by simp only [go_sem]) rfl fun hw => ?_
 have h10 : decide ((1 : Int) = 0) = false := rfl
 have hi := (qdp hw.1).2
 by_cases hf : fewI l = true
 case neg =>
  have hf : fewI l = false := by simpa using hf
  repeat' (first | refine vs_ ?_ | ((first | refine vr_ ?_ | refine qa (qmn hf) fun _ => ?_ | refine qa qcg fun _ => ?_ | (refine cs_ ?_ ?_ <;> intro hc) | refine cj_ ?_ | fail) <;> (try refine ev_ ?_)) | with_reducible exact ti_)
 by_cases hp : fewP [p] = true
 case neg =>
  have hp : fewP [p] = false := by simpa using hp
  have hP : qj Tryz.prog 16 [.sl 4 [encP p]] (.int .i64 0) := qls hp
  repeat' (first | refine vs_ ?_ | ((first | refine vr_ ?_ | fail) <;> (try simp only [h10, go_sem, ↓reduceIte])) | ((first | (refine cs_ ?_ ?_ <;> intro hc) | refine cj_ ?_ | fail | refine qa (qbu hf) fun _ => ?_ | refine qa hP fun _ => ?_ | refine qa qcg fun _ => ?_) <;> (try refine ev_ ?_)) | with_reducible exact ti_)
 have hP : qj Tryz.prog 16 [.sl 4 [encP p]] (.int .i64 1) := qgv hp
 have hs := qrv (fun x hx => (qdi (qje (hi x hx)).2.2.2).1) hf
 obtain ⟨_, hsz⟩ := qmu (l := [p]) (show 1 ≤ maxLen by decide) hp
 obtain ⟨h1, h2⟩ := hsz p (by simp)
 have hB := qmv (l := l) (p := p) (fun x hx => (hs x hx).1) h1 h2
 have hR := qzw (l := l) (p := p) (fun x hx => (hs x hx).1) h1 h2
 obtain ⟨⟨k, m, b⟩, hq⟩ : ∃ q, byI l p = q := ⟨_, rfl⟩
 rw [hq] at hB hR
 have hT : byA (k, m, b) = .tup [.int .i64 k, .sl 4 (qy m), .bool b] := rfl
 rw [hT] at hB hR
 repeat' (first | refine vs_ ?_ | ((first | refine vr_ ?_ | fail) <;> (try simp only [h10, go_sem, ↓reduceIte])) | ((first | (refine cs_ ?_ ?_ <;> intro hc) | refine cj_ ?_ | fail | refine qa (qbu hf) fun _ => ?_ | refine qa hP fun _ => ?_ | refine qa hB fun _ => ?_ | refine qa hR fun _ => ?_ | refine qa (quu m) fun _ => ?_ | refine qa qcg fun _ => ?_) <;> (try refine ev_ ?_)) | with_reducible exact ti_)
 all_goals (exfalso; revert hc; simp)
theorem qxi (l : List Ins) (p : Pd) : byI l p = (0, [], false) ∨ ∃ j, j < l.length ∧ (l.getD j I0).cls = p.cls ∧ (l.getD j I0).con = p.ty.con ∧ p.ty.con ≠ [] ∧ (l.getD j I0).n = p.ty.args.length ∧ byI l p = ((j : Int), (prdR (qbp p.ty.args 0 []) [] (l.getD j I0).ps).1, true) := by
 cases hf : (fndI p.cls p.ty.con l 0).2 with
 | false => exact .inl (qqj hf)
 | true =>
   obtain ⟨j, hj, hjl, hj1, hj2⟩ := qlq l 0 hf
   rw [Nat.zero_add] at hj
   by_cases hc : p.ty.con = []
   ·exact .inl (qqi hc)
   by_cases hn : (l.getD j I0).n = p.ty.args.length
   case neg => exact .inl (qpd hj hn)
   exact .inr ⟨j, hjl, hj1, hj2, hc, hn, qpi hf hj hc hn⟩
set_option maxHeartbeats 2000000 in
theorem qkg (l : List Ins) (p : Pd) : qj Tryz.prog 5 [.sl 4 (qbo l), encP p] (.bool true) := by
 refine qd c0b (by simp) (by simp only [go_sem]) rfl fun hw => ?_
 have h10 : decide ((1 : Int) = 0) = false := rfl
 have hi := (qdp hw.1).2
 by_cases hf : fewI l = true
 case neg =>
  have hf : fewI l = false := by simpa using hf
  repeat' (first | refine vs_ ?_ | ((first | refine vr_ ?_ | refine qa (qmn hf) fun _ => ?_ | refine qa qcg fun _ => ?_ | refine qc (qmn hf) ?_ | refine qc qcg ?_ | (refine cs_ ?_ ?_ <;> intro hc) | refine cj_ ?_ | simp (disch := omega) only [encs_getN, qb]) <;> (try refine ev_ ?_)) | with_reducible exact ti_)
 by_cases hp : fewP [p] = true
 case neg =>
  have hp : fewP [p] = false := by simpa using hp
  have hP : qj Tryz.prog 16 [.sl 4 [encP p]] (.int .i64 0) := qls hp
  repeat' (first | refine vs_ ?_ | ((first | refine vr_ ?_ | fail) <;> (try simp only [h10, go_sem, ↓reduceIte])) | ((first | (refine cs_ ?_ ?_ <;> intro hc) | refine cj_ ?_ | simp (disch := omega) only [encs_getN, qb] | refine qa (qbu hf) fun _ => ?_ | refine qa hP fun _ => ?_ | refine qa qcg fun _ => ?_ | refine qc (qbu hf) ?_ | refine qc hP ?_ | refine qc qcg ?_) <;> (try refine ev_ ?_)) | with_reducible exact ti_)
 have hP : qj Tryz.prog 16 [.sl 4 [encP p]] (.int .i64 1) := qgv hp
 have hs := qrv (fun x hx => (qdi (qje (hi x hx)).2.2.2).1) hf
 have hl12 : l.length ≤ 12 := by
  rw [fewI, Bool.and_eq_true, decide_eq_true_eq] at hf
  exact hf.1
 obtain ⟨_, hsz⟩ := qmu (l := [p]) (show 1 ≤ maxLen by decide) hp
 obtain ⟨h1, h2⟩ := hsz p (by simp)
 have hL := qec h1 h2
 cases hl : qg p.ty with
 | false =>
   rw [hl] at hL
   repeat' (first | refine vs_ ?_ | ((first | refine vr_ ?_ | fail) <;> (try simp only [h10, go_sem, ↓reduceIte])) | ((first | (refine cs_ ?_ ?_ <;> intro hc) | refine cj_ ?_ | simp (disch := omega) only [encs_getN, qb] | refine qa (qbu hf) fun _ => ?_ | refine qa hP fun _ => ?_ | refine qa hL fun _ => ?_ | refine qa qcg fun _ => ?_ | refine qc (qbu hf) ?_ | refine qc hP ?_ | refine qc hL ?_ | refine qc qcg ?_) <;> (try refine ev_ ?_)) | with_reducible exact ti_)
 | true =>
   rw [hl] at hL
   have hB := qmv (l := l) (p := p) (fun x hx => (hs x hx).1) h1 h2
   rcases qxi l p with hq | ⟨j, hj, hcl, hco, hne, hn, hq⟩
   ·rw [hq] at hB
    have hT : byA (0, [], false) = .tup [.int .i64 0, .sl 4 [], .bool false] := rfl
    rw [hT] at hB
    repeat' (first | refine vs_ ?_ | ((first | refine vr_ ?_ | fail) <;> (try simp only [h10, go_sem, ↓reduceIte])) | ((first | (refine cs_ ?_ ?_ <;> intro hc) | refine cj_ ?_ | simp (disch := omega) only [encs_getN, qb] | refine qa (qbu hf) fun _ => ?_ | refine qa hP fun _ => ?_ | refine qa hL fun _ => ?_ | refine qa hB fun _ => ?_ | refine qa qcg fun _ => ?_ | refine qc (qbu hf) ?_ | refine qc hP ?_ | refine qc hL ?_ | refine qc hB ?_ | refine qc qcg ?_) <;> (try refine ev_ ?_)) | with_reducible exact ti_)
   rw [hq] at hB
   obtain ⟨hx1, hx2, hx3⟩ := hs _ (qgh hj)
   have hg := qci hj
   have hC := qqh (l.getD j I0)
   have hH := quk (x := l.getD j I0) hx3
   by_cases hch : chkI (l.getD j I0) = 0
   ·obtain ⟨hpr, hlt⟩ := q14 hch hl hn
    have hab := qt2 hch hl hco hn hne
    obtain ⟨z1, z2, _⟩ := (qs _).1 (qhd hch)
    have hA := qo9 (p := qeu (l.getD j I0)) (t := p.ty) (by omega) (by omega) h1 h2
    rw [hab] at hA
    rw [hpr] at hB
    rw [hch] at hC
    obtain ⟨m, hm⟩ : ∃ m, (l.getD j I0).ps.map (fun q => (⟨q.cls, p.ty.args.getD q.ty.var.toNat Y0⟩ : Pd)) = m := ⟨_, rfl⟩
    have hml : m.length = (l.getD j I0).ps.length := by rw [← hm, List.length_map]
    have hmz : ∀ q ∈ m, szY q.ty < szY p.ty := fun q hq => by
     rw [← hm, List.mem_map] at hq
     obtain ⟨a, ha, rfl⟩ := hq
     exact hlt a ha
    have hT : byA ((j : Int), (m, (0 : Int)).1, true) = .tup [.int .i64 j, .sl 4 (qy m), .bool true] := rfl
    rw [hm, hT] at hB
    repeat' (first | refine vs_ ?_ | ((first | refine vr_ ?_ | fail) <;> (try simp only [h10, hg, hcl, go_sem, ↓reduceIte])) | ((first | simp (disch := omega) only [hg] | (refine cs_ ?_ ?_ <;> intro hc) | refine cj_ ?_ | simp (disch := omega) only [encs_getN, qb] | refine qa (qbu hf) fun _ => ?_ | refine qa hP fun _ => ?_ | refine qa hL fun _ => ?_ | refine qa hB fun _ => ?_ | refine qa hC fun _ => ?_ | refine qa hH fun _ => ?_ | refine qa hA fun _ => ?_ | refine qc (qbu hf) ?_ | refine qc hP ?_ | refine qc hL ?_ | refine qc hB ?_ | refine qc hC ?_ | refine qc hH ?_ | refine qc hA ?_) <;> (try refine ev_ ?_)) | with_reducible exact ti_)
    all_goals try (exfalso; first | omega | contradiction)
    have hSp := qe5 p.ty
    rw [qdw p.ty (by omega)] at hSp
    refine qo (S := Nat) (fun i => i ≤ m.length) (fun i => (⟨[(0, .sl 4 (qbo l)), (3, .ptr 0 0), (5, .int .i64 j), (6, .sl 4 (qy m)), (8, .int .i64 i)], []⟩, [.blk (pdc p)])) (fun i => m.length - i) ?_ fun i hi => ?_
    ·refine qh 0 [0] (Nat.zero_le _) rfl (by simp) ?_ ?_ ?_ <;> (try refine ev_ ?_) <;> (try with_reducible exact ti_) <;> (try simp (disch := omega) only [qb, and_true, true_and])
    ·by_cases hlt' : i < m.length
     ·have hg' := qbr hlt'
      have hS := qe5 (m.getD i P0).ty
      have hz := hmz _ (qfb hlt')
      rw [qdw _ (by omega)] at hS
      repeat' (first | refine vs_ ?_ | ((first | refine vr_ ?_ | fail) <;> (try simp (disch := first | omega | (simp only [List.length_set, List.length_append, List.length_cons, List.length_nil]; done) | (simp only [List.length_set, List.length_append, List.length_cons, List.length_nil]; omega)) only [hg, hg', qb, go_sem, ↓reduceIte])) | ((first | simp (disch := omega) only [hg] | simp (disch := omega) only [hg'] | (refine cs_ ?_ ?_ <;> intro hc) | refine cj_ ?_ | simp (disch := omega) only [encs_getN, qb] | refine qa hC fun _ => ?_ | refine qa hS fun _ => ?_ | refine qa hSp fun _ => ?_ | refine qc hC ?_ | refine qc hS ?_ | refine qc hSp ?_) <;> (try refine ev_ ?_)) | with_reducible exact ti_)
      all_goals try (exfalso; first | omega | contradiction)
      refine qh (i + 1) [0] ⟨by omega, by omega⟩ rfl (by simp) ?_ ?_ ?_ <;> (try refine ev_ ?_) <;> (try with_reducible exact ti_) <;> (try simp (disch := omega) only [qb, and_true, true_and])
      rw [qw (by omega) (by omega), Int.natCast_add]; rfl
     ·repeat' (first | refine vs_ ?_ | ((first | refine vr_ ?_ | refine qa qcg fun _ => ?_ | refine qc qcg ?_ | (refine cs_ ?_ ?_ <;> intro hc) | refine cj_ ?_ | simp (disch := omega) only [encs_getN, qb]) <;> (try refine ev_ ?_)) | with_reducible exact ti_)
      all_goals try (exfalso; first | omega | contradiction)
   ·have hT : byA ((j : Int), (prdR (qbp p.ty.args 0 []) [] (l.getD j I0).ps).1, true) = .tup [.int .i64 j, .sl 4 (qy (prdR (qbp p.ty.args 0 []) [] (l.getD j I0).ps).1), .bool true] := rfl
    rw [hT] at hB
    obtain ⟨m, hm⟩ : ∃ m, (prdR (qbp p.ty.args 0 []) [] (l.getD j I0).ps).1 = m := ⟨_, rfl⟩
    rw [hm] at hB
    have hd : decide (chkI (l.getD j I0) = 0) = false := decide_eq_false hch
    repeat' (first | refine vs_ ?_ | ((first | refine vr_ ?_ | fail) <;> (try simp only [h10, hg, hcl, hd, go_sem, ↓reduceIte])) | ((first | simp (disch := omega) only [hg] | (refine cs_ ?_ ?_ <;> intro hc) | refine cj_ ?_ | simp (disch := omega) only [encs_getN, qb] | refine qa (qbu hf) fun _ => ?_ | refine qa hP fun _ => ?_ | refine qa hL fun _ => ?_ | refine qa hB fun _ => ?_ | refine qa hC fun _ => ?_ | refine qa hH fun _ => ?_ | refine qc (qbu hf) ?_ | refine qc hP ?_ | refine qc hL ?_ | refine qc hB ?_ | refine qc hC ?_ | refine qc hH ?_) <;> (try refine ev_ ?_)) | with_reducible exact ti_)
    all_goals try (exfalso; first | omega | contradiction)
    have hml : m.length ≤ 30 := by
     have := qxt (qbp p.ty.args 0 []) (l.getD j I0).ps []
     rw [hm, List.length_nil] at this
     omega
    refine qo (S := Nat) (fun i => i ≤ m.length) (fun i => (⟨[(0, .sl 4 (qbo l)), (3, .ptr 0 0), (5, .int .i64 j), (6, .sl 4 (qy m)), (8, .int .i64 i)], []⟩, [.blk (pdc p)])) (fun i => m.length - i) ?_ fun i hi => ?_
    ·refine qh 0 [0] (Nat.zero_le _) rfl (by simp) ?_ ?_ ?_ <;> (try refine ev_ ?_) <;> (try with_reducible exact ti_) <;> (try simp (disch := omega) only [qb, and_true, true_and])
    ·by_cases hlt' : i < m.length
     ·have hg' := qbr hlt'
      repeat' (first | refine vs_ ?_ | ((first | refine vr_ ?_ | fail) <;> (try simp (disch := first | omega | (simp only [List.length_set, List.length_append, List.length_cons, List.length_nil]; done) | (simp only [List.length_set, List.length_append, List.length_cons, List.length_nil]; omega)) only [hg, hg', hd, qb, go_sem, ↓reduceIte])) | ((first | simp (disch := omega) only [hg] | simp (disch := omega) only [hg'] | (refine cs_ ?_ ?_ <;> intro hc) | refine cj_ ?_ | simp (disch := omega) only [encs_getN, qb] | refine qa hC fun _ => ?_ | refine qc hC ?_) <;> (try refine ev_ ?_)) | with_reducible exact ti_)
      all_goals try (exfalso; first | omega | contradiction)
      refine qh (i + 1) [0] ⟨by omega, by omega⟩ rfl (by simp) ?_ ?_ ?_ <;> (try refine ev_ ?_) <;> (try with_reducible exact ti_) <;> (try simp (disch := omega) only [qb, and_true, true_and])
      rw [qw (by omega) (by omega), Int.natCast_add]; rfl
     ·repeat' (first | refine vs_ ?_ | ((first | refine vr_ ?_ | refine qa qcg fun _ => ?_ | refine qc qcg ?_ | (refine cs_ ?_ ?_ <;> intro hc) | refine cj_ ?_ | simp (disch := omega) only [encs_getN, qb]) <;> (try refine ev_ ?_)) | with_reducible exact ti_)
      all_goals try (exfalso; first | omega | contradiction)
end Go.Proofs.YtbbjelfnocmaoaaGreat
