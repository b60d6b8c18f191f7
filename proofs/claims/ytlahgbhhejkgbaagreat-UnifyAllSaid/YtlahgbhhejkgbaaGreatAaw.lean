/- Texts of this proof, joined. -/
import Derived.Test.YtlahgbhhejkgbaaGreatAau
import Derived.Test.YtlahgbhhejkgbaaGreatAal
import Derived.Test.YtlahgbhhejkgbaaGreatAav

/- predicates: sameness, whether one is there, each once -/
namespace Go.Proofs.YtlahgbhhejkgbaaGreat
open Go Go.RowKit Go.V
set_option linter.unusedVariables false
set_option linter.unusedSimpArgs false


theorem qk1 : qk [] = [] := by rw [qk]
theorem qln (t : Ty) : [encY t] = qk [t] := by rw [qk, qk]
theorem capY {k : Nat} (h : k ≤ 1000000000) : qb3 k 48 := by unfold qb3; omega

/-! the reference's -/

set_option maxRecDepth 4000

theorem qpr : AV.agg [.str [], .int .i64 0, .sl 3 []] = encY Y0 := by rw [Y0, encY, qk]
def getA (s : List Pr) (v : Int) : AV := match qm v s with | some u => .tup [encY u, .bool true] | none => .tup [encY Y0, .bool false]
theorem qbg1 (k : Nat) (s : List Pr) (v : Int) : (getA s v).bd k = true := by
 unfold getA
 split <;> simp only [AV.bd, AV.bds, qz, Bool.and_true]
theorem qlz {s : List Pr} {i : Nat} (h : i < s.length) (v : Int) : qm v (s.drop i) = if (s.getD i R0).v = v then some (s.getD i R0).ty else qm v (s.drop (i + 1)) := by rw [q0b h, qm]
theorem qdd (p : Pr) : AV.agg [.str p.ty.con, .int .i64 p.ty.var, .sl 3 (qk p.ty.args)] = encY p.ty := qb4 _
theorem qkx (s : List Pr) (v : Int) : ql Tryz.prog 62 [.sl 4 (qt s), .int .i64 v] (getA s v) := by
 refine qf c0bb (by simp) (by simp only [go_sem]) (qbg1 _ _ _) fun hw => ?_
 have hl := (qg2 hw.1).1
 repeat' (first | refine vs_ ?_ | ((first | refine vr_ ?_ | (refine cs_ ?_ ?_ <;> intro hc) | refine cj_ ?_ | simp (disch := omega) only [encs_getN, qb]) <;> (try refine ev_ ?_)) | with_reducible exact ti_)
 refine qq (S := Nat) (fun i => i ≤ s.length ∧ qm v (s.drop i) = qm v s) (fun i => (⟨[(0, .sl 4 (qt s)), (1, .int .i64 v), (4, .ptr 0 0), (6, .int .i64 i)], []⟩, [.blk [.str [], .int .i64 0, .nils]])) (fun i => s.length - i) ?_ fun i hi => ?_
 ·refine qh 0 [0] ⟨Nat.zero_le _, rfl⟩ rfl (by simp) ?_ ?_ ?_ <;> (try refine ev_ ?_) <;> (try with_reducible exact ti_) <;> (try simp (disch := omega) only [qb, and_true, true_and])
 ·obtain ⟨hi, ha⟩ := hi
  repeat' (first | refine vs_ ?_ | ((first | refine vr_ ?_ | fail) <;> (try simp (disch := first | omega | (simp only [List.length_set, List.length_append, List.length_cons, List.length_nil]; done) | (simp only [List.length_set, List.length_append, List.length_cons, List.length_nil]; omega)) only [qn, qb, qdd, qpr, qbf, go_sem, ↓reduceIte])) | ((first | (refine cs_ ?_ ?_ <;> intro hc) | refine cj_ ?_ | simp (disch := omega) only [encs_getN, qb]) <;> (try refine ev_ ?_)) | with_reducible exact ti_)
  ·rename_i hc
   rw [getA, ← ha, qlz (by omega), if_pos hc]
  ·rename_i hc
   refine qh (i + 1) [0] ⟨⟨by omega, ?_⟩, by omega⟩ rfl (by simp) ?_ ?_ ?_ <;> (try refine ev_ ?_) <;> (try with_reducible exact ti_) <;> (try simp (disch := omega) only [qb, and_true, true_and])
   rw [← ha, qlz (i := i) (by omega), if_neg hc]
  ·rw [getA, ← ha, List.drop_of_length_le (by omega), qm]
def rowA (p : List Pr × Int) : AV := .tup [.sl 4 (qt p.1), .int .i64 p.2]
def typA (p : Ty × Int) : AV := .tup [encY p.1, .int .i64 p.2]
theorem qh2 (k : Nat) (p : List Pr × Int) : (rowA p).bd k = true := by simp only [rowA, AV.bd, AV.bds, qby, Bool.and_true]
theorem qmt (k : Nat) (p : Ty × Int) : (typA p).bd k = true := by simp only [typA, AV.bd, AV.bds, qz, Bool.and_true]
theorem capR {k : Nat} (h : k ≤ 1000000000) : qb3 k 56 := by unfold qb3; omega
theorem qpn (v : Int) : ∀ (l : List Pr), ahdR v l < l.length → ¬ (l.getD (ahdR v l) R0).v < v
 | [], h => by simp [ahdR] at h
 | p :: r, h => by
   rw [ahdR] at h ⊢
   split
   ·rename_i hp
    rw [if_pos hp] at h
    exact qpn v r (by simpa using h)
   ·rename_i hp
    exact hp
theorem qhq (v : Int) (t : Ty) : AV.agg [.int .i64 v, .str t.con, .int .i64 t.var, .sl 3 (qk t.args)] = encR ⟨v, t⟩ := rfl
theorem qqq {t : Ty} (h : qd t = true) : szY t ≤ 4096 ∧ dpY t ≤ 100 := ⟨((qr t).1 h).1, ((qr t).1 h).2.1⟩
set_option maxHeartbeats 1000000 in
theorem qps {s : List Pr} {v : Int} {t : Ty} (hs : s.length ≤ 100000) (h1 : szY t ≤ 20000) (h2 : dpY t ≤ 300) : ql Tryz.prog 53 [.sl 4 (qt s), .int .i64 v, encY t] (rowA (setR s v t)) := by
 refine qf c0bc (by simp) (by simp only [go_sem]) (qh2 _ _) fun hw => ?_
 have hl := (qg2 hw.1).1
 have f1 := qcc h1 h2
 have f2 := qkx s v
 have hA := qlb v s
 cases ht : qd t with
 | false =>
   rw [ht] at f1
   repeat' (first | refine vs_ ?_ | ((first | refine vr_ ?_ | refine qa f1 fun _ => ?_ | refine qc f1 ?_ | (refine cs_ ?_ ?_ <;> intro hc) | refine cj_ ?_ | simp (disch := omega) only [encs_getN, qb]) <;> (try refine ev_ ?_)) | with_reducible exact ti_)
   rw [setR, if_neg (by rw [ht]; simp)]; rfl
 | true =>
   rw [ht] at f1
   cases hk : qm v s with
   | some u =>
     rw [getA, hk] at f2
     repeat' (first | refine vs_ ?_ | ((first | refine vr_ ?_ | refine qa f1 fun _ => ?_ | refine qa f2 fun _ => ?_ | refine qc f1 ?_ | refine qc f2 ?_ | (refine cs_ ?_ ?_ <;> intro hc) | refine cj_ ?_ | simp (disch := omega) only [encs_getN, qb]) <;> (try refine ev_ ?_)) | with_reducible exact ti_)
     rw [setR, if_pos ht, hk]; rfl
   | none =>
     rw [getA, hk] at f2
     have hS : setR s v t = (insR v t s, 0) := by rw [setR, if_pos ht, hk]
     repeat' (first | refine vs_ ?_ | ((first | refine vr_ ?_ | refine qa f1 fun _ => ?_ | refine qa f2 fun _ => ?_ | refine qc f1 ?_ | refine qc f2 ?_ | (refine cs_ ?_ ?_ <;> intro hc) | refine cj_ ?_ | simp (disch := omega) only [encs_getN, qb]) <;> (try refine ev_ ?_)) | with_reducible exact ti_)
     refine qq (S := Nat) (fun i => i ≤ ahdR v s) (fun i => (⟨[(0, .sl 4 (qt s)), (1, .int .i64 v), (5, .ptr 0 0), (10, .int .i64 i)], []⟩, [.blk (yc t)])) (fun i => ahdR v s - i) ?_ fun i hi => ?_
     ·refine qh 0 [0] (Nat.zero_le _) rfl (by simp) ?_ ?_ ?_ <;> (try refine ev_ ?_) <;> (try with_reducible exact ti_) <;> (try simp (disch := omega) only [qb, and_true, true_and])
     ·have hge : i < s.length → ¬ (s.getD i R0).v < v → i = ahdR v s := fun hi' hn => by
       by_cases h : i < ahdR v s
       ·exact absurd (qq0 v s i h) hn
       ·omega
      have hgo : i < s.length → (s.getD i R0).v < v → i < ahdR v s := fun hi' hn => by
       by_cases h : i = ahdR v s
       ·subst h; exact absurd hn (qpn v s hi')
       ·omega
      have hti : (s.take i).length = i := by rw [List.length_take]; omega
      have hcap1 : qb3 i 56 = True := eq_true (capR (by omega))
      have hcap2 : qb3 (i + 1) 56 = True := eq_true (capR (by omega))
      have hcap3 : qb3 (i + 1 + (s.drop i).length) 56 = True := eq_true (capR (by rw [List.length_drop]; omega))
      have hfin : i = ahdR v s → insR v t s = s.take i ++ (⟨v, t⟩ :: s.drop i) := fun h => by rw [insR, h]
      by_cases h0 : i = 0
      ·subst h0
       have hcapA : qb3 1 56 = True := eq_true (capR (by omega))
       have hcapB : qb3 (1 + s.length) 56 = True := eq_true (capR (by omega))
       have hlen : (s.length + 1 = 1 + s.length) = True := eq_true (by omega)
       repeat' (first | refine vs_ ?_ | ((first | refine vr_ ?_ | fail) <;> (try simp (disch := first | omega | (simp only [List.length_set, List.length_append, List.length_cons, List.length_nil]; done) | (simp only [List.length_set, List.length_append, List.length_cons, List.length_nil]; omega)) only [qn, qb, q6, qhq, go_sem, ↓reduceIte])) | ((first | simp (disch := omega) only [qn] | simp (disch := omega) only [hcapA] | simp (disch := omega) only [hcapB] | simp (disch := omega) only [hlen, if_true] | (refine cs_ ?_ ?_ <;> intro hc) | refine cj_ ?_ | simp (disch := omega) only [encs_getN, qb]) <;> (try refine ev_ ?_)) | with_reducible exact ti_)
       ·have := hgo (by omega) (by assumption)
        refine qh 1 [0] ⟨by omega, by omega⟩ rfl (by simp) ?_ ?_ ?_ <;> (try refine ev_ ?_) <;> (try with_reducible exact ti_) <;> (try simp (disch := omega) only [qb, and_true, true_and])
        all_goals (rw [qh8])
       all_goals
        have hz : 0 = ahdR v s := by first | exact hge (by omega) (by assumption) | omega
        rw [hS, hfin hz]; rfl
      ·have hlen : ((s.take i ++ ⟨v, t⟩ :: s.drop i).length = i + 1 + (s.drop i).length) = True := eq_true (by rw [List.length_append, List.length_cons, hti]; omega)
       repeat' (first | refine vs_ ?_ | ((first | refine vr_ ?_ | fail) <;> (try simp (disch := first | omega | (simp only [List.length_set, List.length_append, List.length_cons, List.length_nil]; done) | (simp only [List.length_set, List.length_append, List.length_cons, List.length_nil]; omega)) only [qn, qb, q6, hti, h0, qhq, go_sem, ↓reduceIte])) | ((first | simp (disch := omega) only [qn] | simp (disch := omega) only [hti, h0, if_false] | simp (disch := omega) only [hcap1] | simp (disch := omega) only [hcap2] | simp (disch := omega) only [hcap3] | (refine cs_ ?_ ?_ <;> intro hc) | refine cj_ ?_ | simp (disch := omega) only [encs_getN, qb]) <;> (try refine ev_ ?_)) | with_reducible exact ti_)
       ·have := hgo (by omega) (by assumption)
        refine qh (i + 1) [0] ⟨by omega, by omega⟩ rfl (by simp) ?_ ?_ ?_ <;> (try refine ev_ ?_) <;> (try with_reducible exact ti_) <;> (try simp (disch := omega) only [qb, and_true, true_and])
       all_goals
        have hz : i = ahdR v s := by first | exact hge (by omega) (by assumption) | omega
        have e : qt (s.take i) ++ encR ⟨v, t⟩ :: qt (s.drop i) = qt (insR v t s) := by rw [hfin hz]; simp [qt]
        rw [if_pos (by omega), e, hS]
        exact ⟨by simp only [AV.bd, qby], rfl⟩
end Go.Proofs.YtlahgbhhejkgbaaGreat
