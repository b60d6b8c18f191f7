/- Texts of this proof, joined. -/
import Derived.Test.YtbbjelfnocmaoaaGreatBbe

/- substitutions: the law of one behind the other -/
namespace Go.Proofs.YtbbjelfnocmaoaaGreat
open Go Go.RowKit Go.V
set_option linter.unusedVariables false
set_option linter.unusedSimpArgs false


set_option maxRecDepth 4000



set_option maxRecDepth 4000

def prdR (s : List Pr) : List Pd → List Pd → List Pd × Int
 | acc, [] => (acc, 0)
 | acc, p :: r => if (appR s p.ty).2 = 0 then prdR s (acc ++ [⟨p.cls, (appR s p.ty).1⟩]) r else ([], (appR s p.ty).2)
theorem qms (s : List Pr) (b : List Pd) : ∀ (a acc : List Pd), (prdR s acc a).2 = 0 → prdR s acc (a ++ b) = prdR s (prdR s acc a).1 b
 | [], acc, _ => rfl
 | p :: r, acc, h => by
   rw [prdR] at h
   rw [List.cons_append, prdR, prdR]
   split at h
   ·rename_i h0
    rw [if_pos h0, if_pos h0, qms s b r _ h]
   ·rename_i h0
    exact absurd h h0
theorem qmy (s : List Pr) : ∀ (a acc : List Pd), (prdR s acc a).2 = 0 → (prdR s acc a).1.length = acc.length + a.length
 | [], acc, _ => by simp [prdR]
 | p :: r, acc, h => by
   rw [prdR] at h ⊢
   split at h
   ·rename_i h0
    rw [if_pos h0, qmy s r _ h, List.length_append, List.length_cons, List.length_cons]
    simp; omega
   ·rename_i h0
    exact absurd h h0
theorem qg9 {l : List Pd} {i : Nat} (h : i < l.length) : l.take (i + 1) = l.take i ++ [l.getD i P0] := by
 rw [List.take_add_one, List.getD_eq_getElem?_getD, List.getElem?_eq_getElem h]; rfl
theorem qwr {s : List Pr} {l : List Pd} {i : Nat} (h : i < l.length) (h0 : (prdR s [] (l.take i)).2 = 0) (ha : (appR s (l.getD i P0).ty).2 = 0) : prdR s [] (l.take (i + 1)) = ((prdR s [] (l.take i)).1 ++ [⟨(l.getD i P0).cls, (appR s (l.getD i P0).ty).1⟩], 0) := by
 rw [qg9 h, qms s _ _ _ h0, prdR, if_pos ha, prdR]
theorem qog {s : List Pr} {l : List Pd} {i : Nat} (h : i < l.length) (h0 : (prdR s [] (l.take i)).2 = 0) (ha : (appR s (l.getD i P0).ty).2 ≠ 0) : prdR s [] l = ([], (appR s (l.getD i P0).ty).2) := by
 have := qms s (l.drop i) (l.take i) [] h0
 rw [List.take_append_drop, qbjq h] at this
 rw [this, prdR, if_neg ha]
def prdA (p : List Pd × Int) : AV := .tup [.sl 4 (qy p.1), .int .i64 p.2]
theorem qy7 (k : Nat) (p : List Pd × Int) : (prdA p).bd k = true := by simp only [prdA, AV.bd, AV.bds, qcj, Bool.and_true]
def pdSt (s : List Pr) (l : List Pd) (i : Nat) : AF × List Ent :=
 (⟨[(0, .sl 4 (qbh s)), (1, .sl 4 (qy l)), (6, accV 0 (qy (prdR s [] (l.take i)).1)), (7, .int .i64 i)], []⟩, accE 4 (qy (prdR s [] (l.take i)).1))
set_option maxHeartbeats 1000000 in
theorem qpb {s : List Pr} (hs : okS s) {l : List Pd} (hl : l.length ≤ 1000) (hp : ∀ p ∈ l, szY p.ty ≤ 20000 ∧ dpY p.ty ≤ 300) : qj Tryz.prog 60 [.sl 4 (qbh s), .sl 4 (qy l)] (prdA (prdR s [] l)) := by
 refine qd c0k (by simp) (by simp only [AV.bds, AV.bd, qcz, qcj, Bool.and_true]) (qy7 0 _) fun hw => ?_
 repeat' (first | refine vs_ ?_ | ((first | refine vr_ ?_ | (refine cs_ ?_ ?_ <;> intro hc) | refine cj_ ?_ | simp (disch := omega) only [encs_getN, qb]) <;> (try refine ev_ ?_)) | with_reducible exact ti_)
 refine qo (S := Nat) (fun i => i ≤ l.length ∧ (prdR s [] (l.take i)).2 = 0) (pdSt s l) (fun i => l.length - i) ?_ fun i hi => ?_
 ·refine qh 0 [] ⟨Nat.zero_le _, rfl⟩ rfl (by simp) ?_ ?_ ?_ <;> simp only [pdSt, List.take_zero, prdR, qcu, q6, qz] <;> (try refine ev_ ?_) <;> (try with_reducible exact ti_) <;> (try simp (disch := omega) only [qb, and_true, true_and])
 ·obtain ⟨hi, h0⟩ := hi
  have hal := qmy s (l.take i) [] h0
  rw [List.length_take, List.length_nil, Nat.zero_add, Nat.min_eq_left hi] at hal
  unfold pdSt
  by_cases hlt : i < l.length
  ·have hg := qbr hlt
   obtain ⟨m1, m2⟩ := hp _ (qfb hlt)
   have hA := qqs hs m1 m2
   have hT : typA (appR s (l.getD i P0).ty) = .tup [encY (appR s (l.getD i P0).ty).1, .int .i64 (appR s (l.getD i P0).ty).2] := rfl
   rw [hT] at hA
   by_cases ha : (appR s (l.getD i P0).ty).2 = 0
   ·have hn := qwr hlt h0 ha
    rw [ha] at hA
    obtain ⟨B, hB⟩ : ∃ B, (prdR s [] (l.take i)).1 = B := ⟨_, rfl⟩
    rw [hB] at hn hal ⊢
    by_cases hz : B = []
    ·subst hz
     simp only [qcu, q6, qz]
     repeat' (first | refine vs_ ?_ | ((first | refine vr_ ?_ | fail) <;> (try simp (disch := first | omega | (simp only [List.length_set, List.length_append, List.length_cons, List.length_nil]; done) | (simp only [List.length_set, List.length_append, List.length_cons, List.length_nil]; omega)) only [hg, qb, go_sem, ↓reduceIte])) | ((first | simp (disch := omega) only [hg] | simp (disch := omega) only [(show qbv 1 64 = True from eq_true (by unfold qbv; omega))] | (refine cs_ ?_ ?_ <;> intro hc) | refine cj_ ?_ | simp (disch := omega) only [encs_getN, qb] | refine qa hA fun _ => ?_ | refine qc hA ?_) <;> (try refine ev_ ?_)) | with_reducible exact ti_)
     ·refine qh (i + 1) [1] ⟨⟨by omega, by rw [hn]⟩, by omega⟩ rfl (by simp) ?_ ?_ ?_ <;> simp only [pdSt, hn, List.nil_append, ← qow, qdj, qdk] <;> (try refine ev_ ?_) <;> (try with_reducible exact ti_) <;> (try simp (disch := omega) only [qb, and_true, true_and])
      ·rfl
      ·rw [qw (by omega) (by omega), Int.natCast_add]; rfl
     ·exfalso; omega
    ·have hne := qff hz
     simp only [qb1 hne, qb0 hne, qbj]
     have hcap : qbv (B.length + 1) 64 = True := eq_true (by unfold qbv; omega)
     repeat' (first | refine vs_ ?_ | ((first | refine vr_ ?_ | fail) <;> (try simp (disch := first | omega | (simp only [List.length_set, List.length_append, List.length_cons, List.length_nil]; done) | (simp only [List.length_set, List.length_append, List.length_cons, List.length_nil]; omega)) only [hg, qb, qbj, go_sem, ↓reduceIte])) | ((first | simp (disch := omega) only [hg] | simp (disch := omega) only [hcap] | (refine cs_ ?_ ?_ <;> intro hc) | refine cj_ ?_ | simp (disch := omega) only [encs_getN, qb] | refine qa hA fun _ => ?_ | refine qc hA ?_) <;> (try refine ev_ ?_)) | with_reducible exact ti_)
     ·refine qh (i + 1) [2] ⟨⟨by omega, by rw [hn]⟩, by omega⟩ rfl (by simp) ?_ ?_ ?_ <;> simp only [pdSt, hn, ← qc7, qcs, qcq, qbj] <;> (try refine ev_ ?_) <;> (try with_reducible exact ti_) <;> (try simp (disch := omega) only [qb, and_true, true_and])
      ·rw [qc7, qii]; exact ⟨qcj _ _, congrArg (Ent.app 4) (qc7 B ⟨(l.getD i P0).cls, (appR s (l.getD i P0).ty).1⟩)⟩
      ·rw [qw (by omega) (by omega), Int.natCast_add]; rfl
     ·exfalso; omega
   ·have had : decide ((appR s (l.getD i P0).ty).2 = 0) = false := decide_eq_false ha
    have hstop := qog hlt h0 ha
    rw [hstop]
    obtain ⟨B, hB⟩ : ∃ B, (prdR s [] (l.take i)).1 = B := ⟨_, rfl⟩
    rw [hB]
    by_cases hz : B = []
    ·subst hz
     simp only [qcu, q6, qz]
     repeat' (first | refine vs_ ?_ | ((first | refine vr_ ?_ | fail) <;> (try simp (disch := first | omega | (simp only [List.length_set, List.length_append, List.length_cons, List.length_nil]; done) | (simp only [List.length_set, List.length_append, List.length_cons, List.length_nil]; omega)) only [hg, qb, had, go_sem, ↓reduceIte])) | ((first | simp (disch := omega) only [hg] | (refine cs_ ?_ ?_ <;> intro hc) | refine cj_ ?_ | simp (disch := omega) only [encs_getN, qb] | refine qa hA fun _ => ?_ | refine qc hA ?_) <;> (try refine ev_ ?_)) | with_reducible exact ti_)
     ·rfl
     ·exfalso; omega
    ·have hne := qff hz
     simp only [qb1 hne, qb0 hne, qbj]
     repeat' (first | refine vs_ ?_ | ((first | refine vr_ ?_ | fail) <;> (try simp (disch := first | omega | (simp only [List.length_set, List.length_append, List.length_cons, List.length_nil]; done) | (simp only [List.length_set, List.length_append, List.length_cons, List.length_nil]; omega)) only [hg, qb, had, go_sem, ↓reduceIte])) | ((first | simp (disch := omega) only [hg] | (refine cs_ ?_ ?_ <;> intro hc) | refine cj_ ?_ | simp (disch := omega) only [encs_getN, qb] | refine qa hA fun _ => ?_ | refine qc hA ?_) <;> (try refine ev_ ?_)) | with_reducible exact ti_)
     ·rfl
     ·exfalso; omega
  ·have hti : l.take i = l := List.take_of_length_le (by omega)
   rw [hti] at h0 ⊢
   have he : prdR s [] l = ((prdR s [] l).1, 0) := by rw [← h0]
   rw [he]
   generalize (prdR s [] l).1 = B
   by_cases hz : B = []
   ·subst hz
    simp only [qcu, q6, qz]
    repeat' (first | refine vs_ ?_ | ((first | refine vr_ ?_ | fail) <;> (try simp only [qba, go_sem, ↓reduceIte])) | ((first | (refine cs_ ?_ ?_ <;> intro hc) | refine cj_ ?_ | simp (disch := omega) only [encs_getN, qb]) <;> (try refine ev_ ?_)) | with_reducible exact ti_)
    ·exfalso; omega
    ·rfl
   ·have hne := qff hz
    simp only [qb1 hne, qb0 hne, qbj]
    repeat' (first | refine vs_ ?_ | ((first | refine vr_ ?_ | fail) <;> (try simp only [qbj, go_sem, ↓reduceIte])) | ((first | (refine cs_ ?_ ?_ <;> intro hc) | refine cj_ ?_ | simp (disch := omega) only [encs_getN, qb]) <;> (try refine ev_ ?_)) | with_reducible exact ti_)
    ·exfalso; omega
    ·rfl
def ppSt (s : List Pr) (l : List Pd) (i : Nat) : AF × List Ent :=
 (⟨[(0, .ptr 0 0), (6, accV 1 (qy (prdR s [] (l.take i)).1)), (11, .sl 4 (qy l)), (12, .int .i64 l.length), (13, .int .i64 i)], []⟩, subE s :: accE 4 (qy (prdR s [] (l.take i)).1))
set_option maxHeartbeats 1000000 in
theorem qxc {s : List Pr} (hs : okS s) (hsl : s.length ≤ 100000) {l : List Pd} (hl : l.length ≤ 1000) (hp : ∀ p ∈ l, szY p.ty ≤ 20000 ∧ dpY p.ty ≤ 300) : VM Tryz.prog 35 (subE s) (subE s) [.ptr 0 0, .sl 4 (qy l)] (prdA (prdR s [] l)) := by
 refine ql c0l 1 (by simp) (by simp) ?_
 repeat' (first | refine vs_ ?_ | ((first | refine vr_ ?_ | (refine cs_ ?_ ?_ <;> intro hc) | refine cj_ ?_ | simp (disch := omega) only [encs_getN, qb]) <;> (try refine ev_ ?_)) | with_reducible exact ti_)
 refine qo (S := Nat) (fun i => i ≤ l.length ∧ (prdR s [] (l.take i)).2 = 0) (ppSt s l) (fun i => l.length - i) ?_ fun i hi => ?_
 ·refine qh 0 [0] ⟨Nat.zero_le _, rfl⟩ rfl (by simp) ?_ ?_ ?_ <;> simp only [ppSt, List.take_zero, prdR, qcu, q6, qz] <;> (try refine ev_ ?_) <;> (try with_reducible exact ti_) <;> (try simp (disch := omega) only [qb, and_true, true_and])
 ·obtain ⟨hi, h0⟩ := hi
  have hal := qmy s (l.take i) [] h0
  rw [List.length_take, List.length_nil, Nat.zero_add, Nat.min_eq_left hi] at hal
  unfold ppSt
  by_cases hlt : i < l.length
  ·have hg := qbr hlt
   obtain ⟨m1, m2⟩ := hp _ (qfb hlt)
   have hby : ∀ t, AV.bds 0 [encY t] = true := fun t => by simp only [AV.bds, qbg, Bool.and_true]
   have hA := q1d hs hsl m1 m2
   have hT : typA (appR s (l.getD i P0).ty) = .tup [encY (appR s (l.getD i P0).ty).1, .int .i64 (appR s (l.getD i P0).ty).2] := rfl
   rw [hT] at hA
   have hb1 : AV.bd 0 (.tup [encY (appR s (l.getD i P0).ty).1, .int .i64 (appR s (l.getD i P0).ty).2]) = true := qvc 0 _
   by_cases ha : (appR s (l.getD i P0).ty).2 = 0
   ·have hn := qwr hlt h0 ha
    rw [ha] at hA hb1
    obtain ⟨B, hB⟩ : ∃ B, (prdR s [] (l.take i)).1 = B := ⟨_, rfl⟩
    rw [hB] at hn hal ⊢
    by_cases hz : B = []
    ·subst hz
     simp only [qcu, q6, qz]
     repeat' (first | refine vs_ ?_ | ((first | refine vr_ ?_ | fail) <;> (try simp (disch := first | omega | (simp only [List.length_set, List.length_append, List.length_cons, List.length_nil]; done) | (simp only [List.length_set, List.length_append, List.length_cons, List.length_nil]; omega)) only [hg, qb, go_sem, ↓reduceIte])) | ((first | simp (disch := omega) only [hg] | simp (disch := omega) only [(show qbv 1 64 = True from eq_true (by unfold qbv; omega))] | (refine cs_ ?_ ?_ <;> intro hc) | refine cj_ ?_ | simp (disch := omega) only [encs_getN, qb] | refine qd6 0 hA (hby _) hb1 ?_) <;> (try refine ev_ ?_)) | with_reducible exact ti_)
     ·refine qh (i + 1) [0, 3] ⟨⟨by omega, by rw [hn]⟩, by omega⟩ rfl (by simp) ?_ ?_ ?_ <;> simp only [ppSt, hn, List.nil_append, ← qow, qdj, qdk] <;> (try refine ev_ ?_) <;> (try with_reducible exact ti_) <;> (try simp (disch := omega) only [qb, and_true, true_and])
      ·rfl
      ·rw [qw (by omega) (by omega), Int.natCast_add]; rfl
     ·exfalso; omega
    ·have hne := qff hz
     simp only [qb1 hne, qb0 hne, qbj]
     have hcap : qbv (B.length + 1) 64 = True := eq_true (by unfold qbv; omega)
     repeat' (first | refine vs_ ?_ | ((first | refine vr_ ?_ | fail) <;> (try simp (disch := first | omega | (simp only [List.length_set, List.length_append, List.length_cons, List.length_nil]; done) | (simp only [List.length_set, List.length_append, List.length_cons, List.length_nil]; omega)) only [hg, qb, qbj, go_sem, ↓reduceIte])) | ((first | simp (disch := omega) only [hg] | simp (disch := omega) only [hcap] | (refine cs_ ?_ ?_ <;> intro hc) | refine cj_ ?_ | simp (disch := omega) only [encs_getN, qb] | refine qd6 0 hA (hby _) hb1 ?_) <;> (try refine ev_ ?_)) | with_reducible exact ti_)
     ·refine qh (i + 1) [0, 4] ⟨⟨by omega, by rw [hn]⟩, by omega⟩ rfl (by simp) ?_ ?_ ?_ <;> simp only [ppSt, hn, ← qc7, qcs, qcq, qbj] <;> (try refine ev_ ?_) <;> (try with_reducible exact ti_) <;> (try simp (disch := omega) only [qb, and_true, true_and])
      ·rw [qc7, qii]; exact ⟨qcj _ _, congrArg (Ent.app 4) (qc7 B ⟨(l.getD i P0).cls, (appR s (l.getD i P0).ty).1⟩)⟩
      ·rw [qw (by omega) (by omega), Int.natCast_add]; rfl
     ·exfalso; omega
   ·have had : decide ((appR s (l.getD i P0).ty).2 = 0) = false := decide_eq_false ha
    have hstop := qog hlt h0 ha
    rw [hstop]
    obtain ⟨B, hB⟩ : ∃ B, (prdR s [] (l.take i)).1 = B := ⟨_, rfl⟩
    rw [hB]
    by_cases hz : B = []
    ·subst hz
     simp only [qcu, q6, qz]
     repeat' (first | refine vs_ ?_ | ((first | refine vr_ ?_ | fail) <;> (try simp (disch := first | omega | (simp only [List.length_set, List.length_append, List.length_cons, List.length_nil]; done) | (simp only [List.length_set, List.length_append, List.length_cons, List.length_nil]; omega)) only [hg, qb, had, go_sem, ↓reduceIte])) | ((first | simp (disch := omega) only [hg] | (refine cs_ ?_ ?_ <;> intro hc) | refine cj_ ?_ | simp (disch := omega) only [encs_getN, qb] | refine qd6 0 hA (hby _) hb1 ?_) <;> (try refine ev_ ?_)) | with_reducible exact ti_)
     ·rfl
     ·exfalso; omega
    ·have hne := qff hz
     simp only [qb1 hne, qb0 hne, qbj]
     repeat' (first | refine vs_ ?_ | ((first | refine vr_ ?_ | fail) <;> (try simp (disch := first | omega | (simp only [List.length_set, List.length_append, List.length_cons, List.length_nil]; done) | (simp only [List.length_set, List.length_append, List.length_cons, List.length_nil]; omega)) only [hg, qb, had, go_sem, ↓reduceIte])) | ((first | simp (disch := omega) only [hg] | (refine cs_ ?_ ?_ <;> intro hc) | refine cj_ ?_ | simp (disch := omega) only [encs_getN, qb] | refine qd6 0 hA (hby _) hb1 ?_) <;> (try refine ev_ ?_)) | with_reducible exact ti_)
     ·rfl
     ·exfalso; omega
  ·have hti : l.take i = l := List.take_of_length_le (by omega)
   rw [hti] at h0 ⊢
   have he : prdR s [] l = ((prdR s [] l).1, 0) := by rw [← h0]
   rw [he]
   generalize (prdR s [] l).1 = B
   by_cases hz : B = []
   ·subst hz
    simp only [qcu, q6, qz]
    repeat' (first | refine vs_ ?_ | ((first | refine vr_ ?_ | fail) <;> (try simp only [qba, go_sem, ↓reduceIte])) | ((first | (refine cs_ ?_ ?_ <;> intro hc) | refine cj_ ?_ | simp (disch := omega) only [encs_getN, qb]) <;> (try refine ev_ ?_)) | with_reducible exact ti_)
    ·exfalso; omega
    ·rfl
   ·have hne := qff hz
    simp only [qb1 hne, qb0 hne, qbj]
    repeat' (first | refine vs_ ?_ | ((first | refine vr_ ?_ | fail) <;> (try simp only [qbj, go_sem, ↓reduceIte])) | ((first | (refine cs_ ?_ ?_ <;> intro hc) | refine cj_ ?_ | simp (disch := omega) only [encs_getN, qb]) <;> (try refine ev_ ?_)) | with_reducible exact ti_)
    ·exfalso; omega
    ·rfl
end Go.Proofs.YtbbjelfnocmaoaaGreat
