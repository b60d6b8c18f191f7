/- Texts of this proof, joined. -/
import Derived.Test.YtfpobiheiloamaaKat
import Derived.Test.YtfpobiheiloamaaKaw
import Derived.Test.YtfpobiheiloamaaKai

/- substitutions: what they do, program and reference alike -/
namespace Go.Proofs.Ytfpobiheiloamaa
open Go Go.RowKit Go.V
set_option linter.unusedVariables false
set_option linter.unusedSimpArgs false

theorem qbx (t : Ty) : qk t = true ↔ szY t ≤ 4096 ∧ dpY t ≤ 100 ∧ qby t = true := by
 rw [qk, Bool.and_eq_true, Bool.and_eq_true, decide_eq_true_eq, decide_eq_true_eq]
theorem qum {t : Ty} (h : qby t = true) (hc : t.con = []) : t.args = [] := by
 rw [qd3, Bool.and_eq_true] at h
 have h2 := h.2
 rw [mayY, mayW, if_pos hc, decide_eq_true_eq] at h2
 exact List.length_eq_zero_iff.1 (by omega)
mutual
theorem qf4 : ∀ t, qby t = true → bare t
 | .mk c v l, h => by
   rw [bare]
   refine ⟨fun hc => qum h hc, qgi l ?_⟩
   rw [qby, Bool.and_eq_true] at h
   exact h.1
theorem qgi : ∀ l, qbf l = true → qqj l
 | [], _ => by rw [qqj]; trivial
 | x :: r, h => by
   rw [qbf, Bool.and_eq_true] at h
   rw [qqj]
   exact ⟨qf4 x h.1, qgi r h.2⟩
end
def okS (s : List Pr) : Prop := risR s ∧ ∀ p ∈ s, qk p.ty = true
theorem qcb : okS [] := ⟨trivial, fun p hp => by simp at hp⟩
theorem qtt {s : List Pr} (h : okS s) : okR s := fun p hp => by
 have := (qbx _).1 (h.2 p hp)
 exact ⟨this.1, this.2.1⟩
def setR (l : List Pr) (v : Int) (t : Ty) : List Pr × Int := if qk t = true then (match qx v l with | some _ => (l, 6) | none => (insR v t l, 0)) else (l, 1)
theorem qkd {s : List Pr} (h : okS s) (v : Int) (t : Ty) : okS (setR s v t).1 := by
 rw [setR]
 split
 ·rename_i ht
  cases hl : qx v s with
  | some u => exact h
  | none =>
    refine ⟨qoj h.1 hl, fun p hp => ?_⟩
    rcases insR_mem.1 hp with rfl | hp
    ·exact ht
    ·exact h.2 p hp
 ·exact h
theorem qky (s : List Pr) (v : Int) (t : Ty) : (setR s v t).1.length ≤ s.length + 1 := by
 rw [setR]
 split
 ·cases qx v s with
  | some u => simp
  | none => simp only [qon]; omega
 ·simp
def addR (s : List Pr) : List Pr → List Pr
 | [] => s
 | p :: r => addR (setR s p.v p.ty).1 r
theorem qnu : ∀ (l : List Pr) {s : List Pr}, okS s → okS (addR s l)
 | [], s, h => h
 | p :: r, s, h => qnu r (qkd h p.v p.ty)
theorem qps : ∀ (l s : List Pr), (addR s l).length ≤ s.length + l.length
 | [], s => by simp [addR]
 | p :: r, s => by
   have h1 := qps r (setR s p.v p.ty).1
   have h2 := qky s p.v p.ty
   rw [addR, List.length_cons]; omega
def newR (l : List Pr) : List Pr := addR [] l
theorem qne (l : List Pr) : okS (newR l) := qnu l qcb
theorem qw5 (l : List Pr) : (newR l).length ≤ l.length := by have := qps l []; rw [newR]; simpa using this
def appR (s : List Pr) (t : Ty) : Ty × Int := if qk t = true then (if 4096 < sizR s t then (Y0, 2) else if qk (putY s t) = true then (putY s t, 0) else (Y0, 2)) else (Y0, 1)
theorem q09 {s : List Pr} (h : okS s) (t : Ty) : appR s t = if qk t = true then (if qk (putY s t) = true then (putY s t, 0) else (Y0, 2)) else (Y0, 1) := by
 rw [appR]
 split
 ·rename_i ht
  have hs := qeq ht
  have hz := qnx s t (qf4 t hs)
  split
  ·rename_i hb
   rw [if_neg]
   intro hl
   have := ((qbx _).1 hl).1
   omega
  ·rfl
 ·rfl
theorem qro {s : List Pr} (h : okS s) {t : Ty} (he : (appR s t).2 = 0) : qk t = true ∧ qk (putY s t) = true ∧ (appR s t).1 = putY s t := by
 rw [q09 h] at he ⊢
 split at he
 ·rename_i h1
  split at he
  ·rename_i h2
   rw [if_pos h1, if_pos h2]
   exact ⟨h1, h2, rfl⟩
  ·exact absurd he (by simp)
 ·exact absurd he (by simp)
def qli (t : List Pr) : List Pr → List Pr → List Pr × Int
 | acc, [] => (acc, 0)
 | acc, p :: r => if (appR t p.ty).2 = 0 then qli t (acc ++ [⟨p.v, (appR t p.ty).1⟩]) r else ([], (appR t p.ty).2)
def behR (s t : List Pr) : List Pr × Int := if (qli t [] s).2 = 0 then (addR (qli t [] s).1 t, 0) else ([], (qli t [] s).2)
theorem qmt {t : List Pr} (ht : okS t) : ∀ (s acc : List Pr), (qli t acc s).2 = 0 → (qli t acc s).1 = acc ++ s.map (fun p => ⟨p.v, putY t p.ty⟩) ∧ ∀ p ∈ s, qk (putY t p.ty) = true
 | [], acc, _ => ⟨by simp [qli], fun p hp => by simp at hp⟩
 | p :: r, acc, he => by
   rw [qli] at he ⊢
   split at he
   ·rename_i h0
    obtain ⟨h1, h2, h3⟩ := qro ht h0
    obtain ⟨q1, q2⟩ := qmt ht r _ he
    rw [if_pos h0]
    refine ⟨by rw [q1, h3]; simp, fun q hq => ?_⟩
    rcases List.mem_cons.1 hq with rfl | hq
    ·exact h2
    ·exact q2 q hq
   ·rename_i h0
    exact absurd he h0
theorem qup {t : List Pr} : ∀ {s : List Pr}, risR s → risR (s.map fun p => (⟨p.v, putY t p.ty⟩ : Pr))
 | [], _ => trivial
 | p :: r, h => ⟨fun q hq => by
     obtain ⟨x, hx, rfl⟩ := List.mem_map.1 hq
     exact h.1 x hx, qup h.2⟩
theorem qbb1 {s t : List Pr} (hs : okS s) (ht : okS t) : okS (behR s t).1 := by
 rw [behR]
 split
 ·rename_i he
  obtain ⟨q1, q2⟩ := qmt ht s [] he
  refine qnu t ?_
  rw [q1, List.nil_append]
  refine ⟨qup hs.1, fun p hp => ?_⟩
  obtain ⟨x, hx, rfl⟩ := List.mem_map.1 hp
  exact q2 x hx
 ·exact qcb
def qbit (vars : List Int) (s : List Pr) : List Pr := s.filter fun p => decide (p.v ∈ vars)
theorem qf8 (f : Pr → Bool) : ∀ {s : List Pr}, risR s → risR (s.filter f)
 | [], _ => trivial
 | p :: r, h => by
   rw [List.filter_cons]
   split
   ·exact ⟨fun q hq => h.1 q (List.mem_filter.1 hq).1, qf8 f h.2⟩
   ·exact qf8 f h.2
theorem qxx {s : List Pr} (h : okS s) (vars : List Int) : okS (qbit vars s) := ⟨qf8 _ h.1, fun p hp => h.2 p (List.mem_filter.1 hp).1⟩
set_option maxRecDepth 4000

set_option maxRecDepth 4000

theorem qhw : qi [] = [] := by rw [qi]
theorem capY {k : Nat} (h : k ≤ 1000000000) : qc1 k 48 := by unfold qc1; omega
set_option maxRecDepth 4000

/-! the reference's -/
set_option maxRecDepth 4000

set_option maxRecDepth 4000

theorem ql6 : AV.agg [.str [], .int .i64 0, .sl 3 []] = encY Y0 := by rw [Y0, encY, qi]
def getA (s : List Pr) (v : Int) : AV := match qx v s with | some u => .tup [encY u, .bool true] | none => .tup [encY Y0, .bool false]
theorem q1a (k : Nat) (s : List Pr) (v : Int) : (getA s v).bd k = true := by
 unfold getA
 split <;> simp only [AV.bd, AV.bds, qbg, Bool.and_true]
theorem qjg {s : List Pr} {i : Nat} (h : i < s.length) (v : Int) : qx v (s.drop i) = if (s.getD i R0).v = v then some (s.getD i R0).ty else qx v (s.drop (i + 1)) := by rw [q66 h, qx]
theorem qoi (p : Pr) : AV.agg [.str p.ty.con, .int .i64 p.ty.var, .sl 3 (qi p.ty.args)] = encY p.ty := qbh _
theorem qfc (s : List Pr) (v : Int) : qj Try.prog 38 [.sl 4 (qr s), .int .i64 v] (getA s v) := by
 refine qe c0bs (by simp) (by simp only [go_sem]) (q1a _ _ _) fun hw => ?_
 have hl := (qkj hw.1).1
 repeat' (first | refine vs_ ?_ | ((first | refine vr_ ?_ | (refine cs_ ?_ ?_ <;> intro hc) | refine cj_ ?_ | simp (disch := omega) only [encs_getN, qb]) <;> (try refine ev_ ?_)) | with_reducible exact ti_)
 refine qs (S := Nat) (fun i => i ≤ s.length ∧ qx v (s.drop i) = qx v s) (fun i => (⟨[(0, .sl 4 (qr s)), (1, .int .i64 v), (4, .ptr 0 0), (6, .int .i64 i)], []⟩, [.blk [.str [], .int .i64 0, .nils]])) (fun i => s.length - i) ?_ fun i hi => ?_
 ·refine qo 0 [0] ⟨Nat.zero_le _, rfl⟩ rfl (by simp) ?_ ?_ ?_ <;> (try refine ev_ ?_) <;> (try with_reducible exact ti_) <;> (try simp (disch := omega) only [qb, and_true, true_and])
 ·obtain ⟨hi, ha⟩ := hi
  repeat' (first | refine vs_ ?_ | ((first | refine vr_ ?_ | fail) <;> (try simp (disch := first | omega | (simp only [List.length_set, List.length_append, List.length_cons, List.length_nil]; done) | (simp only [List.length_set, List.length_append, List.length_cons, List.length_nil]; omega)) only [q9, qb, qoi, ql6, qbw, go_sem, ↓reduceIte])) | ((first | (refine cs_ ?_ ?_ <;> intro hc) | refine cj_ ?_ | simp (disch := omega) only [encs_getN, qb]) <;> (try refine ev_ ?_)) | with_reducible exact ti_)
  ·rename_i hc
   rw [getA, ← ha, qjg (by omega), if_pos hc]
  ·rename_i hc
   refine qo (i + 1) [0] ⟨⟨by omega, ?_⟩, by omega⟩ rfl (by simp) ?_ ?_ ?_ <;> (try refine ev_ ?_) <;> (try with_reducible exact ti_) <;> (try simp (disch := omega) only [qb, and_true, true_and])
   rw [← ha, qjg (i := i) (by omega), if_neg hc]
  ·rw [getA, ← ha, List.drop_of_length_le (by omega), qx]
def rowA (p : List Pr × Int) : AV := .tup [.sl 4 (qr p.1), .int .i64 p.2]
def typA (p : Ty × Int) : AV := .tup [encY p.1, .int .i64 p.2]
theorem qny (k : Nat) (p : List Pr × Int) : (rowA p).bd k = true := by simp only [rowA, AV.bd, AV.bds, qb1, Bool.and_true]
theorem qba7 (k : Nat) (p : Ty × Int) : (typA p).bd k = true := by simp only [typA, AV.bd, AV.bds, qbg, Bool.and_true]
theorem capR {k : Nat} (h : k ≤ 1000000000) : qc1 k 56 := by unfold qc1; omega
theorem qlf (v : Int) : ∀ (l : List Pr), ahdR v l < l.length → ¬ (l.getD (ahdR v l) R0).v < v
 | [], h => by simp [ahdR] at h
 | p :: r, h => by
   rw [ahdR] at h ⊢
   split
   ·rename_i hp
    rw [if_pos hp] at h
    exact qlf v r (by simpa using h)
   ·rename_i hp
    exact hp
theorem qmg (v : Int) (t : Ty) : AV.agg [.int .i64 v, .str t.con, .int .i64 t.var, .sl 3 (qi t.args)] = encR ⟨v, t⟩ := rfl
theorem qlc {t : Ty} (h : qk t = true) : szY t ≤ 4096 ∧ dpY t ≤ 100 := ⟨((qbx t).1 h).1, ((qbx t).1 h).2.1⟩
set_option maxHeartbeats 1000000 in
theorem qtj {s : List Pr} {v : Int} {t : Ty} (hs : s.length ≤ 100000) (h1 : szY t ≤ 20000) (h2 : dpY t ≤ 300) : qj Try.prog 44 [.sl 4 (qr s), .int .i64 v, encY t] (rowA (setR s v t)) := by
 refine qe c0bt (by simp) (by simp only [go_sem]) (qny _ _) fun hw => ?_
 have hl := (qkj hw.1).1
 have f1 := qdb h1 h2
 have f2 := qfc s v
 have hA := qg5 v s
 cases ht : qk t with
 | false =>
   rw [ht] at f1
   repeat' (first | refine vs_ ?_ | ((first | refine vr_ ?_ | refine qa f1 fun _ => ?_ | refine qd f1 ?_ | (refine cs_ ?_ ?_ <;> intro hc) | refine cj_ ?_ | simp (disch := omega) only [encs_getN, qb]) <;> (try refine ev_ ?_)) | with_reducible exact ti_)
   rw [setR, if_neg (by rw [ht]; simp)]; rfl
 | true =>
   rw [ht] at f1
   cases hk : qx v s with
   | some u =>
     rw [getA, hk] at f2
     repeat' (first | refine vs_ ?_ | ((first | refine vr_ ?_ | refine qa f1 fun _ => ?_ | refine qa f2 fun _ => ?_ | refine qd f1 ?_ | refine qd f2 ?_ | (refine cs_ ?_ ?_ <;> intro hc) | refine cj_ ?_ | simp (disch := omega) only [encs_getN, qb]) <;> (try refine ev_ ?_)) | with_reducible exact ti_)
     rw [setR, if_pos ht, hk]; rfl
   | none =>
     rw [getA, hk] at f2
     have hS : setR s v t = (insR v t s, 0) := by rw [setR, if_pos ht, hk]
     repeat' (first | refine vs_ ?_ | ((first | refine vr_ ?_ | refine qa f1 fun _ => ?_ | refine qa f2 fun _ => ?_ | refine qd f1 ?_ | refine qd f2 ?_ | (refine cs_ ?_ ?_ <;> intro hc) | refine cj_ ?_ | simp (disch := omega) only [encs_getN, qb]) <;> (try refine ev_ ?_)) | with_reducible exact ti_)
     refine qs (S := Nat) (fun i => i ≤ ahdR v s) (fun i => (⟨[(0, .sl 4 (qr s)), (1, .int .i64 v), (5, .ptr 0 0), (10, .int .i64 i)], []⟩, [.blk (yc t)])) (fun i => ahdR v s - i) ?_ fun i hi => ?_
     ·refine qo 0 [0] (Nat.zero_le _) rfl (by simp) ?_ ?_ ?_ <;> (try refine ev_ ?_) <;> (try with_reducible exact ti_) <;> (try simp (disch := omega) only [qb, and_true, true_and])
     ·have hge : i < s.length → ¬ (s.getD i R0).v < v → i = ahdR v s := fun hi' hn => by
       by_cases h : i < ahdR v s
       ·exact absurd (qm6 v s i h) hn
       ·omega
      have hgo : i < s.length → (s.getD i R0).v < v → i < ahdR v s := fun hi' hn => by
       by_cases h : i = ahdR v s
       ·subst h; exact absurd hn (qlf v s hi')
       ·omega
      have hti : (s.take i).length = i := by rw [List.length_take]; omega
      have hcap1 : qc1 i 56 = True := eq_true (capR (by omega))
      have hcap2 : qc1 (i + 1) 56 = True := eq_true (capR (by omega))
      have hcap3 : qc1 (i + 1 + (s.drop i).length) 56 = True := eq_true (capR (by rw [List.length_drop]; omega))
      have hfin : i = ahdR v s → insR v t s = s.take i ++ (⟨v, t⟩ :: s.drop i) := fun h => by rw [insR, h]
      by_cases h0 : i = 0
      ·subst h0
       have hcapA : qc1 1 56 = True := eq_true (capR (by omega))
       have hcapB : qc1 (1 + s.length) 56 = True := eq_true (capR (by omega))
       have hlen : (s.length + 1 = 1 + s.length) = True := eq_true (by omega)
       repeat' (first | refine vs_ ?_ | ((first | refine vr_ ?_ | fail) <;> (try simp (disch := first | omega | (simp only [List.length_set, List.length_append, List.length_cons, List.length_nil]; done) | (simp only [List.length_set, List.length_append, List.length_cons, List.length_nil]; omega)) only [q9, qb, qb2, qmg, go_sem, ↓reduceIte])) | ((first | simp (disch := omega) only [q9] | simp (disch := omega) only [hcapA] | simp (disch := omega) only [hcapB] | simp (disch := omega) only [hlen, if_true] | (refine cs_ ?_ ?_ <;> intro hc) | refine cj_ ?_ | simp (disch := omega) only [encs_getN, qb]) <;> (try refine ev_ ?_)) | with_reducible exact ti_)
       ·have := hgo (by omega) (by assumption)
        refine qo 1 [0] ⟨by omega, by omega⟩ rfl (by simp) ?_ ?_ ?_ <;> (try refine ev_ ?_) <;> (try with_reducible exact ti_) <;> (try simp (disch := omega) only [qb, and_true, true_and])
        all_goals (rw [qkq])
       all_goals
        have hz : 0 = ahdR v s := by first | exact hge (by omega) (by assumption) | omega
        rw [hS, hfin hz]; rfl
      ·have hlen : ((s.take i ++ ⟨v, t⟩ :: s.drop i).length = i + 1 + (s.drop i).length) = True := eq_true (by rw [List.length_append, List.length_cons, hti]; omega)
       repeat' (first | refine vs_ ?_ | ((first | refine vr_ ?_ | fail) <;> (try simp (disch := first | omega | (simp only [List.length_set, List.length_append, List.length_cons, List.length_nil]; done) | (simp only [List.length_set, List.length_append, List.length_cons, List.length_nil]; omega)) only [q9, qb, qb2, hti, h0, qmg, go_sem, ↓reduceIte])) | ((first | simp (disch := omega) only [q9] | simp (disch := omega) only [hti, h0, if_false] | simp (disch := omega) only [hcap1] | simp (disch := omega) only [hcap2] | simp (disch := omega) only [hcap3] | (refine cs_ ?_ ?_ <;> intro hc) | refine cj_ ?_ | simp (disch := omega) only [encs_getN, qb]) <;> (try refine ev_ ?_)) | with_reducible exact ti_)
       ·have := hgo (by omega) (by assumption)
        refine qo (i + 1) [0] ⟨by omega, by omega⟩ rfl (by simp) ?_ ?_ ?_ <;> (try refine ev_ ?_) <;> (try with_reducible exact ti_) <;> (try simp (disch := omega) only [qb, and_true, true_and])
       all_goals
        have hz : i = ahdR v s := by first | exact hge (by omega) (by assumption) | omega
        have e : qr (s.take i) ++ encR ⟨v, t⟩ :: qr (s.drop i) = qr (insR v t s) := by rw [hfin hz]; simp [qr]
        rw [if_pos (by omega), e, hS]
        exact ⟨by simp only [AV.bd, qb1], rfl⟩
end Go.Proofs.Ytfpobiheiloamaa
