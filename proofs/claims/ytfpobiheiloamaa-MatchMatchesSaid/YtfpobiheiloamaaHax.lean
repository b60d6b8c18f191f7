/- Texts of this proof, joined. -/
import Derived.Test.YtfpobiheiloamaaHat
import Derived.Test.YtfpobiheiloamaaHaw
import Derived.Test.YtfpobiheiloamaaHai

/- substitutions: what they do, program and reference alike -/
namespace Go.Proofs.Ytfpobiheiloamaa
open Go Go.RowKit Go.V
set_option linter.unusedVariables false
set_option linter.unusedSimpArgs false

theorem qby (t : Ty) : qj t = true ↔ szY t ≤ 4096 ∧ dpY t ≤ 100 ∧ qbx t = true := by
 rw [qj, Bool.and_eq_true, Bool.and_eq_true, decide_eq_true_eq, decide_eq_true_eq]
theorem qr2 {t : Ty} (h : qbx t = true) (hc : t.con = []) : t.args = [] := by
 rw [qea, Bool.and_eq_true] at h
 have h2 := h.2
 rw [mayY, mayW, if_pos hc, decide_eq_true_eq] at h2
 exact List.length_eq_zero_iff.1 (by omega)
mutual
theorem qfv : ∀ t, qbx t = true → bare t
 | .mk c v l, h => by
   rw [bare]
   refine ⟨fun hc => qr2 h hc, qgk l ?_⟩
   rw [qbx, Bool.and_eq_true] at h
   exact h.1
theorem qgk : ∀ l, qbf l = true → qp6 l
 | [], _ => by rw [qp6]; trivial
 | x :: r, h => by
   rw [qbf, Bool.and_eq_true] at h
   rw [qp6]
   exact ⟨qfv x h.1, qgk r h.2⟩
end
def okS (s : List Pr) : Prop := risR s ∧ ∀ p ∈ s, qj p.ty = true
theorem qca : okS [] := ⟨trivial, fun p hp => by simp at hp⟩
theorem qsn {s : List Pr} (h : okS s) : okR s := fun p hp => by
 have := (qby _).1 (h.2 p hp)
 exact ⟨this.1, this.2.1⟩
def setR (l : List Pr) (v : Int) (t : Ty) : List Pr × Int := if qj t = true then (match qw v l with | some _ => (l, 6) | none => (insR v t l, 0)) else (l, 1)
theorem qkj {s : List Pr} (h : okS s) (v : Int) (t : Ty) : okS (setR s v t).1 := by
 rw [setR]
 split
 ·rename_i ht
  cases hl : qw v s with
  | some u => exact h
  | none =>
    refine ⟨qoq h.1 hl, fun p hp => ?_⟩
    rcases insR_mem.1 hp with rfl | hp
    ·exact ht
    ·exact h.2 p hp
 ·exact h
theorem qky (s : List Pr) (v : Int) (t : Ty) : (setR s v t).1.length ≤ s.length + 1 := by
 rw [setR]
 split
 ·cases qw v s with
  | some u => simp
  | none => simp only [qpo]; omega
 ·simp
def addR (s : List Pr) : List Pr → List Pr
 | [] => s
 | p :: r => addR (setR s p.v p.ty).1 r
theorem qnk : ∀ (l : List Pr) {s : List Pr}, okS s → okS (addR s l)
 | [], s, h => h
 | p :: r, s, h => qnk r (qkj h p.v p.ty)
theorem qow : ∀ (l s : List Pr), (addR s l).length ≤ s.length + l.length
 | [], s => by simp [addR]
 | p :: r, s => by
   have h1 := qow r (setR s p.v p.ty).1
   have h2 := qky s p.v p.ty
   rw [addR, List.length_cons]; omega
def newR (l : List Pr) : List Pr := addR [] l
theorem qm9 (l : List Pr) : okS (newR l) := qnk l qca
theorem qx9 (l : List Pr) : (newR l).length ≤ l.length := by have := qow l []; rw [newR]; simpa using this
def appR (s : List Pr) (t : Ty) : Ty × Int := if qj t = true then (if 4096 < sizR s t then (Y0, 2) else if qj (putY s t) = true then (putY s t, 0) else (Y0, 2)) else (Y0, 1)
theorem qbca {s : List Pr} (h : okS s) (t : Ty) : appR s t = if qj t = true then (if qj (putY s t) = true then (putY s t, 0) else (Y0, 2)) else (Y0, 1) := by
 rw [appR]
 split
 ·rename_i ht
  have hs := qem ht
  have hz := qoa s t (qfv t hs)
  split
  ·rename_i hb
   rw [if_neg]
   intro hl
   have := ((qby _).1 hl).1
   omega
  ·rfl
 ·rfl
theorem qp9 {s : List Pr} (h : okS s) {t : Ty} (he : (appR s t).2 = 0) : qj t = true ∧ qj (putY s t) = true ∧ (appR s t).1 = putY s t := by
 rw [qbca h] at he ⊢
 split at he
 ·rename_i h1
  split at he
  ·rename_i h2
   rw [if_pos h1, if_pos h2]
   exact ⟨h1, h2, rfl⟩
  ·exact absurd he (by simp)
 ·exact absurd he (by simp)
def ql4 (t : List Pr) : List Pr → List Pr → List Pr × Int
 | acc, [] => (acc, 0)
 | acc, p :: r => if (appR t p.ty).2 = 0 then ql4 t (acc ++ [⟨p.v, (appR t p.ty).1⟩]) r else ([], (appR t p.ty).2)
def behR (s t : List Pr) : List Pr × Int := if (ql4 t [] s).2 = 0 then (addR (ql4 t [] s).1 t, 0) else ([], (ql4 t [] s).2)
theorem qmp {t : List Pr} (ht : okS t) : ∀ (s acc : List Pr), (ql4 t acc s).2 = 0 → (ql4 t acc s).1 = acc ++ s.map (fun p => ⟨p.v, putY t p.ty⟩) ∧ ∀ p ∈ s, qj (putY t p.ty) = true
 | [], acc, _ => ⟨by simp [ql4], fun p hp => by simp at hp⟩
 | p :: r, acc, he => by
   rw [ql4] at he ⊢
   split at he
   ·rename_i h0
    obtain ⟨h1, h2, h3⟩ := qp9 ht h0
    obtain ⟨q1, q2⟩ := qmp ht r _ he
    rw [if_pos h0]
    refine ⟨by rw [q1, h3]; simp, fun q hq => ?_⟩
    rcases List.mem_cons.1 hq with rfl | hq
    ·exact h2
    ·exact q2 q hq
   ·rename_i h0
    exact absurd he h0
theorem qtc {t : List Pr} : ∀ {s : List Pr}, risR s → risR (s.map fun p => (⟨p.v, putY t p.ty⟩ : Pr))
 | [], _ => trivial
 | p :: r, h => ⟨fun q hq => by
     obtain ⟨x, hx, rfl⟩ := List.mem_map.1 hq
     exact h.1 x hx, qtc h.2⟩
theorem q4o {s t : List Pr} (hs : okS s) (ht : okS t) : okS (behR s t).1 := by
 rw [behR]
 split
 ·rename_i he
  obtain ⟨q1, q2⟩ := qmp ht s [] he
  refine qnk t ?_
  rw [q1, List.nil_append]
  refine ⟨qtc hs.1, fun p hp => ?_⟩
  obtain ⟨x, hx, rfl⟩ := List.mem_map.1 hp
  exact q2 x hx
 ·exact qca
def qbdd (vars : List Int) (s : List Pr) : List Pr := s.filter fun p => decide (p.v ∈ vars)
theorem qf3 (f : Pr → Bool) : ∀ {s : List Pr}, risR s → risR (s.filter f)
 | [], _ => trivial
 | p :: r, h => by
   rw [List.filter_cons]
   split
   ·exact ⟨fun q hq => h.1 q (List.mem_filter.1 hq).1, qf3 f h.2⟩
   ·exact qf3 f h.2
theorem qwl {s : List Pr} (h : okS s) (vars : List Int) : okS (qbdd vars s) := ⟨qf3 _ h.1, fun p hp => h.2 p (List.mem_filter.1 hp).1⟩
set_option maxRecDepth 4000

set_option maxRecDepth 4000

theorem qg8 : ql [] = [] := by rw [ql]
theorem capY {k : Nat} (h : k ≤ 1000000000) : qc2 k 48 := by unfold qc2; omega
set_option maxRecDepth 4000

/-! the reference's -/
set_option maxRecDepth 4000

set_option maxRecDepth 4000

theorem qlr : AV.agg [.str [], .int .i64 0, .sl 3 []] = encY Y0 := by rw [Y0, encY, ql]
def getA (s : List Pr) (v : Int) : AV := match qw v s with | some u => .tup [encY u, .bool true] | none => .tup [encY Y0, .bool false]
theorem q3c (k : Nat) (s : List Pr) (v : Int) : (getA s v).bd k = true := by
 unfold getA
 split <;> simp only [AV.bd, AV.bds, qbe, Bool.and_true]
theorem qjf {s : List Pr} {i : Nat} (h : i < s.length) (v : Int) : qw v (s.drop i) = if (s.getD i R0).v = v then some (s.getD i R0).ty else qw v (s.drop (i + 1)) := by rw [q4j h, qw]
theorem qom (p : Pr) : AV.agg [.str p.ty.con, .int .i64 p.ty.var, .sl 3 (ql p.ty.args)] = encY p.ty := qbh _
theorem qfu (s : List Pr) (v : Int) : qh Try.prog 38 [.sl 4 (qr s), .int .i64 v] (getA s v) := by
 refine qe c0bs (by simp) (by simp only [go_sem]) (q3c _ _ _) fun hw => ?_
 have hl := (qkp hw.1).1
 repeat' (first | refine vs_ ?_ | ((first | refine vr_ ?_ | (refine cs_ ?_ ?_ <;> intro hc) | refine cj_ ?_ | simp (disch := omega) only [encs_getN, qb]) <;> (try refine ev_ ?_)) | with_reducible exact ti_)
 refine qs (S := Nat) (fun i => i ≤ s.length ∧ qw v (s.drop i) = qw v s) (fun i => (⟨[(0, .sl 4 (qr s)), (1, .int .i64 v), (4, .ptr 0 0), (6, .int .i64 i)], []⟩, [.blk [.str [], .int .i64 0, .nils]])) (fun i => s.length - i) ?_ fun i hi => ?_
 ·refine qo 0 [0] ⟨Nat.zero_le _, rfl⟩ rfl (by simp) ?_ ?_ ?_ <;> (try refine ev_ ?_) <;> (try with_reducible exact ti_) <;> (try simp (disch := omega) only [qb, and_true, true_and])
 ·obtain ⟨hi, ha⟩ := hi
  repeat' (first | refine vs_ ?_ | ((first | refine vr_ ?_ | fail) <;> (try simp (disch := first | omega | (simp only [List.length_set, List.length_append, List.length_cons, List.length_nil]; done) | (simp only [List.length_set, List.length_append, List.length_cons, List.length_nil]; omega)) only [q8, qb, qom, qlr, qbw, go_sem, ↓reduceIte])) | ((first | (refine cs_ ?_ ?_ <;> intro hc) | refine cj_ ?_ | simp (disch := omega) only [encs_getN, qb]) <;> (try refine ev_ ?_)) | with_reducible exact ti_)
  ·rename_i hc
   rw [getA, ← ha, qjf (by omega), if_pos hc]
  ·rename_i hc
   refine qo (i + 1) [0] ⟨⟨by omega, ?_⟩, by omega⟩ rfl (by simp) ?_ ?_ ?_ <;> (try refine ev_ ?_) <;> (try with_reducible exact ti_) <;> (try simp (disch := omega) only [qb, and_true, true_and])
   rw [← ha, qjf (i := i) (by omega), if_neg hc]
  ·rw [getA, ← ha, List.drop_of_length_le (by omega), qw]
def rowA (p : List Pr × Int) : AV := .tup [.sl 4 (qr p.1), .int .i64 p.2]
def typA (p : Ty × Int) : AV := .tup [encY p.1, .int .i64 p.2]
theorem qk6 (k : Nat) (p : List Pr × Int) : (rowA p).bd k = true := by simp only [rowA, AV.bd, AV.bds, qb0, Bool.and_true]
theorem qbar (k : Nat) (p : Ty × Int) : (typA p).bd k = true := by simp only [typA, AV.bd, AV.bds, qbe, Bool.and_true]
theorem capR {k : Nat} (h : k ≤ 1000000000) : qc2 k 56 := by unfold qc2; omega
theorem qmb (v : Int) : ∀ (l : List Pr), ahdR v l < l.length → ¬ (l.getD (ahdR v l) R0).v < v
 | [], h => by simp [ahdR] at h
 | p :: r, h => by
   rw [ahdR] at h ⊢
   split
   ·rename_i hp
    rw [if_pos hp] at h
    exact qmb v r (by simpa using h)
   ·rename_i hp
    exact hp
theorem qmr (v : Int) (t : Ty) : AV.agg [.int .i64 v, .str t.con, .int .i64 t.var, .sl 3 (ql t.args)] = encR ⟨v, t⟩ := rfl
theorem qlf {t : Ty} (h : qj t = true) : szY t ≤ 4096 ∧ dpY t ≤ 100 := ⟨((qby t).1 h).1, ((qby t).1 h).2.1⟩
set_option maxHeartbeats 1000000 in
theorem qsd {s : List Pr} {v : Int} {t : Ty} (hs : s.length ≤ 100000) (h1 : szY t ≤ 20000) (h2 : dpY t ≤ 300) : qh Try.prog 44 [.sl 4 (qr s), .int .i64 v, encY t] (rowA (setR s v t)) := by
 refine qe c0bt (by simp) (by simp only [go_sem]) (qk6 _ _) fun hw => ?_
 have hl := (qkp hw.1).1
 have f1 := qda h1 h2
 have f2 := qfu s v
 have hA := qh6 v s
 cases ht : qj t with
 | false =>
   rw [ht] at f1
   repeat' (first | refine vs_ ?_ | ((first | refine vr_ ?_ | refine qa f1 fun _ => ?_ | refine qc f1 ?_ | (refine cs_ ?_ ?_ <;> intro hc) | refine cj_ ?_ | simp (disch := omega) only [encs_getN, qb]) <;> (try refine ev_ ?_)) | with_reducible exact ti_)
   rw [setR, if_neg (by rw [ht]; simp)]; rfl
 | true =>
   rw [ht] at f1
   cases hk : qw v s with
   | some u =>
     rw [getA, hk] at f2
     repeat' (first | refine vs_ ?_ | ((first | refine vr_ ?_ | refine qa f1 fun _ => ?_ | refine qa f2 fun _ => ?_ | refine qc f1 ?_ | refine qc f2 ?_ | (refine cs_ ?_ ?_ <;> intro hc) | refine cj_ ?_ | simp (disch := omega) only [encs_getN, qb]) <;> (try refine ev_ ?_)) | with_reducible exact ti_)
     rw [setR, if_pos ht, hk]; rfl
   | none =>
     rw [getA, hk] at f2
     have hS : setR s v t = (insR v t s, 0) := by rw [setR, if_pos ht, hk]
     repeat' (first | refine vs_ ?_ | ((first | refine vr_ ?_ | refine qa f1 fun _ => ?_ | refine qa f2 fun _ => ?_ | refine qc f1 ?_ | refine qc f2 ?_ | (refine cs_ ?_ ?_ <;> intro hc) | refine cj_ ?_ | simp (disch := omega) only [encs_getN, qb]) <;> (try refine ev_ ?_)) | with_reducible exact ti_)
     refine qs (S := Nat) (fun i => i ≤ ahdR v s) (fun i => (⟨[(0, .sl 4 (qr s)), (1, .int .i64 v), (5, .ptr 0 0), (10, .int .i64 i)], []⟩, [.blk (yc t)])) (fun i => ahdR v s - i) ?_ fun i hi => ?_
     ·refine qo 0 [0] (Nat.zero_le _) rfl (by simp) ?_ ?_ ?_ <;> (try refine ev_ ?_) <;> (try with_reducible exact ti_) <;> (try simp (disch := omega) only [qb, and_true, true_and])
     ·have hge : i < s.length → ¬ (s.getD i R0).v < v → i = ahdR v s := fun hi' hn => by
       by_cases h : i < ahdR v s
       ·exact absurd (qns v s i h) hn
       ·omega
      have hgo : i < s.length → (s.getD i R0).v < v → i < ahdR v s := fun hi' hn => by
       by_cases h : i = ahdR v s
       ·subst h; exact absurd hn (qmb v s hi')
       ·omega
      have hti : (s.take i).length = i := by rw [List.length_take]; omega
      have hcap1 : qc2 i 56 = True := eq_true (capR (by omega))
      have hcap2 : qc2 (i + 1) 56 = True := eq_true (capR (by omega))
      have hcap3 : qc2 (i + 1 + (s.drop i).length) 56 = True := eq_true (capR (by rw [List.length_drop]; omega))
      have hfin : i = ahdR v s → insR v t s = s.take i ++ (⟨v, t⟩ :: s.drop i) := fun h => by rw [insR, h]
      by_cases h0 : i = 0
      ·subst h0
       have hcapA : qc2 1 56 = True := eq_true (capR (by omega))
       have hcapB : qc2 (1 + s.length) 56 = True := eq_true (capR (by omega))
       have hlen : (s.length + 1 = 1 + s.length) = True := eq_true (by omega)
       repeat' (first | refine vs_ ?_ | ((first | refine vr_ ?_ | fail) <;> (try simp (disch := first | omega | (simp only [List.length_set, List.length_append, List.length_cons, List.length_nil]; done) | (simp only [List.length_set, List.length_append, List.length_cons, List.length_nil]; omega)) only [q8, qb, qb3, qmr, go_sem, ↓reduceIte])) | ((first | simp (disch := omega) only [q8] | simp (disch := omega) only [hcapA] | simp (disch := omega) only [hcapB] | simp (disch := omega) only [hlen, if_true] | (refine cs_ ?_ ?_ <;> intro hc) | refine cj_ ?_ | simp (disch := omega) only [encs_getN, qb]) <;> (try refine ev_ ?_)) | with_reducible exact ti_)
       ·have := hgo (by omega) (by assumption)
        refine qo 1 [0] ⟨by omega, by omega⟩ rfl (by simp) ?_ ?_ ?_ <;> (try refine ev_ ?_) <;> (try with_reducible exact ti_) <;> (try simp (disch := omega) only [qb, and_true, true_and])
        all_goals (rw [qkt])
       all_goals
        have hz : 0 = ahdR v s := by first | exact hge (by omega) (by assumption) | omega
        rw [hS, hfin hz]; rfl
      ·have hlen : ((s.take i ++ ⟨v, t⟩ :: s.drop i).length = i + 1 + (s.drop i).length) = True := eq_true (by rw [List.length_append, List.length_cons, hti]; omega)
       repeat' (first | refine vs_ ?_ | ((first | refine vr_ ?_ | fail) <;> (try simp (disch := first | omega | (simp only [List.length_set, List.length_append, List.length_cons, List.length_nil]; done) | (simp only [List.length_set, List.length_append, List.length_cons, List.length_nil]; omega)) only [q8, qb, qb3, hti, h0, qmr, go_sem, ↓reduceIte])) | ((first | simp (disch := omega) only [q8] | simp (disch := omega) only [hti, h0, if_false] | simp (disch := omega) only [hcap1] | simp (disch := omega) only [hcap2] | simp (disch := omega) only [hcap3] | (refine cs_ ?_ ?_ <;> intro hc) | refine cj_ ?_ | simp (disch := omega) only [encs_getN, qb]) <;> (try refine ev_ ?_)) | with_reducible exact ti_)
       ·have := hgo (by omega) (by assumption)
        refine qo (i + 1) [0] ⟨by omega, by omega⟩ rfl (by simp) ?_ ?_ ?_ <;> (try refine ev_ ?_) <;> (try with_reducible exact ti_) <;> (try simp (disch := omega) only [qb, and_true, true_and])
       all_goals
        have hz : i = ahdR v s := by first | exact hge (by omega) (by assumption) | omega
        have e : qr (s.take i) ++ encR ⟨v, t⟩ :: qr (s.drop i) = qr (insR v t s) := by rw [hfin hz]; simp [qr]
        rw [if_pos (by omega), e, hS]
        exact ⟨by simp only [AV.bd, qb0], rfl⟩
end Go.Proofs.Ytfpobiheiloamaa
