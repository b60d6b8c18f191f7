/- Texts of this proof, joined. -/
import Derived.Test.YtlahgbhhejkgbaaGreatLav
import Derived.Test.YtlahgbhhejkgbaaGreatLal
import Derived.Test.YtlahgbhhejkgbaaGreatLaw

/- predicates: sameness, whether one is there, each once -/
namespace Go.Proofs.YtlahgbhhejkgbaaGreat
open Go Go.RowKit Go.V
set_option linter.unusedVariables false
set_option linter.unusedSimpArgs false


theorem qiv {l : List Ty} (h : l ≠ []) : qq l ≠ [] := by cases l with | nil => exact absurd rfl h | cons _ _ => simp [qq]
theorem qkb : qq [] = [] := by rw [qq]
theorem qhi (t : Ty) : [encY t] = qq [t] := by rw [qq, qq]
theorem capY {k : Nat} (h : k ≤ 1000000000) : qb3 k 48 := by unfold qb3; omega

/-! the reference's -/

set_option maxRecDepth 4000

theorem qbqf : AV.agg [.str [], .int .i64 0, .sl 3 []] = encY Y0 := by rw [Y0, encY, qq]
def getA (s : List Pr) (v : Int) : AV := match qi v s with | some u => .tup [encY u, .bool true] | none => .tup [encY Y0, .bool false]
theorem qbht (k : Nat) (s : List Pr) (v : Int) : (getA s v).bd k = true := by
 unfold getA
 split <;> simp only [AV.bd, AV.bds, qz, Bool.and_true]
theorem qlb {s : List Pr} {i : Nat} (h : i < s.length) (v : Int) : qi v (s.drop i) = if (s.getD i R0).v = v then some (s.getD i R0).ty else qi v (s.drop (i + 1)) := by rw [qbmm h, qi]
theorem qgf (p : Pr) : AV.agg [.str p.ty.con, .int .i64 p.ty.var, .sl 3 (qq p.ty.args)] = encY p.ty := qb8 _
theorem qpj (s : List Pr) (v : Int) : qn Tryz.prog 62 [.sl 4 (qw s), .int .i64 v] (getA s v) := by
 refine qf c0be (by simp) (by simp only [go_sem]) (qbht _ _ _) fun hw => ?_
 have hl := (qi3 hw.1).1
 repeat' (first | refine vs_ ?_ | ((first | refine vr_ ?_ | (refine cs_ ?_ ?_ <;> intro hc) | refine cj_ ?_ | simp (disch := omega) only [encs_getN, qb]) <;> (try refine ev_ ?_)) | with_reducible exact ti_)
 refine qp (S := Nat) (fun i => i ≤ s.length ∧ qi v (s.drop i) = qi v s) (fun i => (⟨[(0, .sl 4 (qw s)), (1, .int .i64 v), (4, .ptr 0 0), (6, .int .i64 i)], []⟩, [.blk [.str [], .int .i64 0, .nils]])) (fun i => s.length - i) ?_ fun i hi => ?_
 ·refine qm 0 [0] ⟨Nat.zero_le _, rfl⟩ rfl (by simp) ?_ ?_ ?_ <;> (try refine ev_ ?_) <;> (try with_reducible exact ti_) <;> (try simp (disch := omega) only [qb, and_true, true_and])
 ·obtain ⟨hi, ha⟩ := hi
  repeat' (first | refine vs_ ?_ | ((first | refine vr_ ?_ | fail) <;> (try simp (disch := first | omega | (simp only [List.length_set, List.length_append, List.length_cons, List.length_nil]; done) | (simp only [List.length_set, List.length_append, List.length_cons, List.length_nil]; omega)) only [qy, qb, qgf, qbqf, qdr, go_sem, ↓reduceIte])) | ((first | (refine cs_ ?_ ?_ <;> intro hc) | refine cj_ ?_ | simp (disch := omega) only [encs_getN, qb]) <;> (try refine ev_ ?_)) | with_reducible exact ti_)
  ·rename_i hc
   rw [getA, ← ha, qlb (by omega), if_pos hc]
  ·rename_i hc
   refine qm (i + 1) [0] ⟨⟨by omega, ?_⟩, by omega⟩ rfl (by simp) ?_ ?_ ?_ <;> (try refine ev_ ?_) <;> (try with_reducible exact ti_) <;> (try simp (disch := omega) only [qb, and_true, true_and])
   rw [← ha, qlb (i := i) (by omega), if_neg hc]
  ·rw [getA, ← ha, List.drop_of_length_le (by omega), qi]
def rowA (p : List Pr × Int) : AV := .tup [.sl 4 (qw p.1), .int .i64 p.2]
def typA (p : Ty × Int) : AV := .tup [encY p.1, .int .i64 p.2]
theorem qbda (k : Nat) (p : List Pr × Int) : (rowA p).bd k = true := by simp only [rowA, AV.bd, AV.bds, qbx, Bool.and_true]
theorem qqs (k : Nat) (p : Ty × Int) : (typA p).bd k = true := by simp only [typA, AV.bd, AV.bds, qz, Bool.and_true]
theorem capR {k : Nat} (h : k ≤ 1000000000) : qb3 k 56 := by unfold qb3; omega
theorem qpg (v : Int) : ∀ (l : List Pr), ahdR v l < l.length → ¬ (l.getD (ahdR v l) R0).v < v
 | [], h => by simp [ahdR] at h
 | p :: r, h => by
   rw [ahdR] at h ⊢
   split
   ·rename_i hp
    rw [if_pos hp] at h
    exact qpg v r (by simpa using h)
   ·rename_i hp
    exact hp
theorem qo9 (v : Int) (t : Ty) : AV.agg [.int .i64 v, .str t.con, .int .i64 t.var, .sl 3 (qq t.args)] = encR ⟨v, t⟩ := rfl
set_option maxHeartbeats 1000000 in
theorem qyg {s : List Pr} {v : Int} {t : Ty} (hs : s.length ≤ 100000) (h1 : szY t ≤ 20000) (h2 : dpY t ≤ 300) : qn Tryz.prog 53 [.sl 4 (qw s), .int .i64 v, encY t] (rowA (setR s v t)) := by
 refine qf c0bf (by simp) (by simp only [go_sem]) (qbda _ _) fun hw => ?_
 have hl := (qi3 hw.1).1
 have f1 := qq5 h1 h2
 have f2 := qpj s v
 have hA := qkm v s
 cases ht : qc t with
 | false =>
   rw [ht] at f1
   repeat' (first | refine vs_ ?_ | ((first | refine vr_ ?_ | refine qa f1 fun _ => ?_ | refine qg f1 ?_ | (refine cs_ ?_ ?_ <;> intro hc) | refine cj_ ?_ | simp (disch := omega) only [encs_getN, qb]) <;> (try refine ev_ ?_)) | with_reducible exact ti_)
   rw [setR, if_neg (by rw [ht]; simp)]; rfl
 | true =>
   rw [ht] at f1
   cases hk : qi v s with
   | some u =>
     rw [getA, hk] at f2
     repeat' (first | refine vs_ ?_ | ((first | refine vr_ ?_ | refine qa f1 fun _ => ?_ | refine qa f2 fun _ => ?_ | refine qg f1 ?_ | refine qg f2 ?_ | (refine cs_ ?_ ?_ <;> intro hc) | refine cj_ ?_ | simp (disch := omega) only [encs_getN, qb]) <;> (try refine ev_ ?_)) | with_reducible exact ti_)
     rw [setR, if_pos ht, hk]; rfl
   | none =>
     rw [getA, hk] at f2
     have hS : setR s v t = (insR v t s, 0) := by rw [setR, if_pos ht, hk]
     repeat' (first | refine vs_ ?_ | ((first | refine vr_ ?_ | refine qa f1 fun _ => ?_ | refine qa f2 fun _ => ?_ | refine qg f1 ?_ | refine qg f2 ?_ | (refine cs_ ?_ ?_ <;> intro hc) | refine cj_ ?_ | simp (disch := omega) only [encs_getN, qb]) <;> (try refine ev_ ?_)) | with_reducible exact ti_)
     refine qp (S := Nat) (fun i => i ≤ ahdR v s) (fun i => (⟨[(0, .sl 4 (qw s)), (1, .int .i64 v), (5, .ptr 0 0), (10, .int .i64 i)], []⟩, [.blk (yc t)])) (fun i => ahdR v s - i) ?_ fun i hi => ?_
     ·refine qm 0 [0] (Nat.zero_le _) rfl (by simp) ?_ ?_ ?_ <;> (try refine ev_ ?_) <;> (try with_reducible exact ti_) <;> (try simp (disch := omega) only [qb, and_true, true_and])
     ·have hge : i < s.length → ¬ (s.getD i R0).v < v → i = ahdR v s := fun hi' hn => by
       by_cases h : i < ahdR v s
       ·exact absurd (qqw v s i h) hn
       ·omega
      have hgo : i < s.length → (s.getD i R0).v < v → i < ahdR v s := fun hi' hn => by
       by_cases h : i = ahdR v s
       ·subst h; exact absurd hn (qpg v s hi')
       ·omega
      have hti : (s.take i).length = i := by rw [List.length_take]; omega
      have hcap1 : qb3 i 56 = True := eq_true (capR (by omega))
      have hcap2 : qb3 (i + 1) 56 = True := eq_true (capR (by omega))
      have hcap3 : qb3 (i + 1 + (s.drop i).length) 56 = True := eq_true (capR (by rw [List.length_drop]; omega))
      have hfin : i = ahdR v s → insR v t s = s.take i ++ (⟨v, t⟩ :: s.drop i) := fun h => by rw [insR, h]
      by_cases h0 : i = 0
      ·subst h0
       have hcapA : qb3 1 56 = True := eq_true (capR (by omega))
       have hcapB : qb3 (1 + s.length) 56 = True := eq_true (capR (by omega))
       have hlen : (s.length + 1 = 1 + s.length) = True := eq_true (by omega)
       repeat' (first | refine vs_ ?_ | ((first | refine vr_ ?_ | fail) <;> (try simp (disch := first | omega | (simp only [List.length_set, List.length_append, List.length_cons, List.length_nil]; done) | (simp only [List.length_set, List.length_append, List.length_cons, List.length_nil]; omega)) only [qy, qb, qce, qo9, go_sem, ↓reduceIte])) | ((first | simp (disch := omega) only [qy] | simp (disch := omega) only [hcapA] | simp (disch := omega) only [hcapB] | simp (disch := omega) only [hlen, if_true] | (refine cs_ ?_ ?_ <;> intro hc) | refine cj_ ?_ | simp (disch := omega) only [encs_getN, qb]) <;> (try refine ev_ ?_)) | with_reducible exact ti_)
       ·have := hgo (by omega) (by assumption)
        refine qm 1 [0] ⟨by omega, by omega⟩ rfl (by simp) ?_ ?_ ?_ <;> (try refine ev_ ?_) <;> (try with_reducible exact ti_) <;> (try simp (disch := omega) only [qb, and_true, true_and])
        all_goals (rw [qmi])
       all_goals
        have hz : 0 = ahdR v s := by first | exact hge (by omega) (by assumption) | omega
        rw [hS, hfin hz]; rfl
      ·have hlen : ((s.take i ++ ⟨v, t⟩ :: s.drop i).length = i + 1 + (s.drop i).length) = True := eq_true (by rw [List.length_append, List.length_cons, hti]; omega)
       repeat' (first | refine vs_ ?_ | ((first | refine vr_ ?_ | fail) <;> (try simp (disch := first | omega | (simp only [List.length_set, List.length_append, List.length_cons, List.length_nil]; done) | (simp only [List.length_set, List.length_append, List.length_cons, List.length_nil]; omega)) only [qy, qb, qce, hti, h0, qo9, go_sem, ↓reduceIte])) | ((first | simp (disch := omega) only [qy] | simp (disch := omega) only [hti, h0, if_false] | simp (disch := omega) only [hcap1] | simp (disch := omega) only [hcap2] | simp (disch := omega) only [hcap3] | (refine cs_ ?_ ?_ <;> intro hc) | refine cj_ ?_ | simp (disch := omega) only [encs_getN, qb]) <;> (try refine ev_ ?_)) | with_reducible exact ti_)
       ·have := hgo (by omega) (by assumption)
        refine qm (i + 1) [0] ⟨by omega, by omega⟩ rfl (by simp) ?_ ?_ ?_ <;> (try refine ev_ ?_) <;> (try with_reducible exact ti_) <;> (try simp (disch := omega) only [qb, and_true, true_and])
       all_goals
        have hz : i = ahdR v s := by first | exact hge (by omega) (by assumption) | omega
        have e : qw (s.take i) ++ encR ⟨v, t⟩ :: qw (s.drop i) = qw (insR v t s) := by rw [hfin hz]; simp [qw]
        rw [if_pos (by omega), e, hS]
        exact ⟨by simp only [AV.bd, qbx], rfl⟩
end Go.Proofs.YtlahgbhhejkgbaaGreat
