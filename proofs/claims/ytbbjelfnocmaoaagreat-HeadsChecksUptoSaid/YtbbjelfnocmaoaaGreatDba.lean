/- Texts of this proof, joined. -/
import Derived.Test.YtbbjelfnocmaoaaGreatDaz
import Derived.Test.YtbbjelfnocmaoaaGreatDau
import Derived.Test.YtbbjelfnocmaoaaGreatDav

/- substitutions: what they do, program and reference alike -/
namespace Go.Proofs.YtbbjelfnocmaoaaGreat
open Go Go.RowKit Go.V
set_option linter.unusedVariables false
set_option linter.unusedSimpArgs false

theorem qbe (t : Ty) : qy t = true ↔ szY t ≤ 4096 ∧ dpY t ≤ 100 ∧ qbn t = true := by
 rw [qy, Bool.and_eq_true, Bool.and_eq_true, decide_eq_true_eq, decide_eq_true_eq]
theorem qym {t : Ty} (h : qbn t = true) (hc : t.con = []) : t.args = [] := by
 rw [qe0, Bool.and_eq_true] at h
 have h2 := h.2
 rw [mayY, mayW, if_pos hc, decide_eq_true_eq] at h2
 exact List.length_eq_zero_iff.1 (by omega)
mutual
theorem qc7 : ∀ t, qbn t = true → bare t
 | .mk c v l, h => by
   rw [bare]
   refine ⟨fun hc => qym h hc, qhr l ?_⟩
   rw [qbn, Bool.and_eq_true] at h
   exact h.1
theorem qhr : ∀ l, qv l = true → qj5 l
 | [], _ => by rw [qj5]; trivial
 | x :: r, h => by
   rw [qv, Bool.and_eq_true] at h
   rw [qj5]
   exact ⟨qc7 x h.1, qhr r h.2⟩
end
def okS (s : List Pr) : Prop := risR s ∧ ∀ p ∈ s, qy p.ty = true
theorem qpd : okS [] := ⟨trivial, fun p hp => by simp at hp⟩
theorem qpr {s : List Pr} (h : okS s) : okR s := fun p hp => by
 have := (qbe _).1 (h.2 p hp)
 exact ⟨this.1, this.2.1⟩
theorem q0b {s : List Pr} (h : okS s) {v : Int} {u : Ty} (hu : qbd v s = some u) : qy u = true := by
 obtain ⟨p, h1, _, rfl⟩ := qja hu
 exact h.2 p h1
mutual
theorem qnt {s : List Pr} (h : okS s) : ∀ t, qbn t = true → qbn (putY s t) = true
 | .mk c v l, ht => by
   rw [putY]
   split
   ·cases hl : qbd v s with
    | some u => exact ((qbe u).1 (q0b h hl)).2.2
    | none => exact ht
   ·rw [qbn, Bool.and_eq_true] at ht ⊢
    exact ⟨qk7 h l ht.1, by rw [qgs]; exact ht.2⟩
theorem qk7 {s : List Pr} (h : okS s) : ∀ l, qv l = true → qv (qbu s l) = true
 | [], _ => by rw [qbu, qv]
 | x :: r, hl => by
   rw [qv, Bool.and_eq_true] at hl
   rw [qbu, qv, Bool.and_eq_true]
   exact ⟨qnt h x hl.1, qk7 h r hl.2⟩
end
def setR (l : List Pr) (v : Int) (t : Ty) : List Pr × Int := if qy t = true then (match qbd v l with | some _ => (l, 6) | none => (insR v t l, 0)) else (l, 1)
theorem qqe {s : List Pr} (h : okS s) (v : Int) (t : Ty) : okS (setR s v t).1 := by
 rw [setR]
 split
 ·rename_i ht
  cases hl : qbd v s with
  | some u => exact h
  | none =>
    refine ⟨qrl h.1 hl, fun p hp => ?_⟩
    rcases insR_mem.1 hp with rfl | hp
    ·exact ht
    ·exact h.2 p hp
 ·exact h
theorem qsb (s : List Pr) (v : Int) (t : Ty) : (setR s v t).1.length ≤ s.length + 1 := by
 rw [setR]
 split
 ·cases qbd v s with
  | some u => simp
  | none => simp only [qqw]; omega
 ·simp
def addR (s : List Pr) : List Pr → List Pr
 | [] => s
 | p :: r => addR (setR s p.v p.ty).1 r
theorem qpm : ∀ (l : List Pr) {s : List Pr}, okS s → okS (addR s l)
 | [], s, h => h
 | p :: r, s, h => qpm r (qqe h p.v p.ty)
theorem qqs : ∀ (l s : List Pr), (addR s l).length ≤ s.length + l.length
 | [], s => by simp [addR]
 | p :: r, s => by
   have h1 := qqs r (setR s p.v p.ty).1
   have h2 := qsb s p.v p.ty
   rw [addR, List.length_cons]; omega
def newR (l : List Pr) : List Pr := addR [] l
theorem qp3 (l : List Pr) : okS (newR l) := qpm l qpd
theorem q0i (l : List Pr) : (newR l).length ≤ l.length := by have := qqs l []; rw [newR]; simpa using this
def appR (s : List Pr) (t : Ty) : Ty × Int := if qy t = true then (if 4096 < sizR s t then (Y0, 2) else if qy (putY s t) = true then (putY s t, 0) else (Y0, 2)) else (Y0, 1)
theorem qya {s : List Pr} (h : okS s) (t : Ty) : appR s t = if qy t = true then (if qy (putY s t) = true then (putY s t, 0) else (Y0, 2)) else (Y0, 1) := by
 rw [appR]
 split
 ·rename_i ht
  have hs := qcm ht
  have hz := qlt s t (qc7 t hs)
  split
  ·rename_i hb
   rw [if_neg]
   intro hl
   have := ((qbe _).1 hl).1
   omega
  ·rfl
 ·rfl
def appP (s : List Pr) (t : Ty) : Ty × Int := if qy t = true then (if (bput s t 4096 1).1 < 0 then (Y0, 2) else ((bput s t 4096 1).2, 0)) else (Y0, 1)
theorem qbhn {s : List Pr} (h : okS s) (t : Ty) : appP s t = appR s t := by
 rw [appP, qya h]
 split
 ·rename_i ht
  obtain ⟨h1, h2, h3⟩ := (qbe t).1 ht
  have hz := qlt s t (qc7 t h3)
  have hp := qnt h t h3
  have key := qql s t 4096 1 (qc7 t h3) (by omega) (by omega)
  by_cases hk : (sizR s t : Int) ≤ 4096 ∧ 1 + dpY (putY s t) ≤ 101
  ·have hk' : (sizR s t : Int) ≤ 4096 ∧ (1 : Int) + dpY (putY s t) ≤ 101 := by omega
   rw [key.1 hk', if_neg (by simp only; omega), if_pos ((qbe _).2 ⟨by omega, by omega, hp⟩)]
  ·rw [if_pos (key.2 (by omega)), if_neg]
   intro hl
   have := (qbe _).1 hl
   omega
 ·rfl
theorem qtd {s : List Pr} (h : okS s) {t : Ty} (he : (appR s t).2 = 0) : qy t = true ∧ qy (putY s t) = true ∧ (appR s t).1 = putY s t := by
 rw [qya h] at he ⊢
 split at he
 ·rename_i h1
  split at he
  ·rename_i h2
   rw [if_pos h1, if_pos h2]
   exact ⟨h1, h2, rfl⟩
  ·exact absurd he (by simp)
 ·exact absurd he (by simp)
def qnd (t : List Pr) : List Pr → List Pr → List Pr × Int
 | acc, [] => (acc, 0)
 | acc, p :: r => if (appR t p.ty).2 = 0 then qnd t (acc ++ [⟨p.v, (appR t p.ty).1⟩]) r else ([], (appR t p.ty).2)
def behR (s t : List Pr) : List Pr × Int := if (qnd t [] s).2 = 0 then (addR (qnd t [] s).1 t, 0) else ([], (qnd t [] s).2)
theorem qoi {t : List Pr} (ht : okS t) : ∀ (s acc : List Pr), (qnd t acc s).2 = 0 → (qnd t acc s).1 = acc ++ s.map (fun p => ⟨p.v, putY t p.ty⟩) ∧ ∀ p ∈ s, qy (putY t p.ty) = true
 | [], acc, _ => ⟨by simp [qnd], fun p hp => by simp at hp⟩
 | p :: r, acc, he => by
   rw [qnd] at he ⊢
   split at he
   ·rename_i h0
    obtain ⟨h1, h2, h3⟩ := qtd ht h0
    obtain ⟨q1, q2⟩ := qoi ht r _ he
    rw [if_pos h0]
    refine ⟨by rw [q1, h3]; simp, fun q hq => ?_⟩
    rcases List.mem_cons.1 hq with rfl | hq
    ·exact h2
    ·exact q2 q hq
   ·rename_i h0
    exact absurd he h0
theorem qux {t : List Pr} : ∀ {s : List Pr}, risR s → risR (s.map fun p => (⟨p.v, putY t p.ty⟩ : Pr))
 | [], _ => trivial
 | p :: r, h => ⟨fun q hq => by
     obtain ⟨x, hx, rfl⟩ := List.mem_map.1 hq
     exact h.1 x hx, qux h.2⟩
theorem qbfg {s t : List Pr} (hs : okS s) (ht : okS t) : okS (behR s t).1 := by
 rw [behR]
 split
 ·rename_i he
  obtain ⟨q1, q2⟩ := qoi ht s [] he
  refine qpm t ?_
  rw [q1, List.nil_append]
  refine ⟨qux hs.1, fun p hp => ?_⟩
  obtain ⟨x, hx, rfl⟩ := List.mem_map.1 hp
  exact q2 x hx
 ·exact qpd
set_option maxRecDepth 4000

theorem qns : AV.agg [.str [], .int .i64 0, .sl 3 []] = encY Y0 := by rw [Y0, encY, qj]
def getA (s : List Pr) (v : Int) : AV := match qbd v s with | some u => .tup [encY u, .bool true] | none => .tup [encY Y0, .bool false]
theorem qbj6 (k : Nat) (s : List Pr) (v : Int) : (getA s v).bd k = true := by
 unfold getA
 split <;> simp only [AV.bd, AV.bds, qbp, Bool.and_true]
theorem qkt {s : List Pr} {i : Nat} (h : i < s.length) (v : Int) : qbd v (s.drop i) = if (s.getD i R0).v = v then some (s.getD i R0).ty else qbd v (s.drop (i + 1)) := by rw [qbs3 h, qbd]
theorem q3n (p : Pr) : AV.agg [.str p.ty.con, .int .i64 p.ty.var, .sl 3 (qj p.ty.args)] = encY p.ty := qbh _
theorem qot (s : List Pr) (v : Int) : qg Tryz.prog 88 [.sl 4 (qbt s), .int .i64 v] (getA s v) := by
 refine qd c0cu (by simp) (by simp only [go_sem]) (qbj6 _ _ _) fun hw => ?_
 have hl := (q3j hw.1).1
 repeat' (first | refine vs_ ?_ | ((first | refine vr_ ?_ | (refine cs_ ?_ ?_ <;> intro hc) | refine cj_ ?_ | simp (disch := omega) only [encs_getN, qb]) <;> (try refine ev_ ?_)) | with_reducible exact ti_)
 refine qm (S := Nat) (fun i => i ≤ s.length ∧ qbd v (s.drop i) = qbd v s) (fun i => (⟨[(0, .sl 4 (qbt s)), (1, .int .i64 v), (4, .ptr 0 0), (6, .int .i64 i)], []⟩, [.blk [.str [], .int .i64 0, .nils]])) (fun i => s.length - i) ?_ fun i hi => ?_
 ·refine qh 0 [0] ⟨Nat.zero_le _, rfl⟩ rfl (by simp) ?_ ?_ ?_ <;> (try refine ev_ ?_) <;> (try with_reducible exact ti_) <;> (try simp (disch := omega) only [qb, and_true, true_and])
 ·obtain ⟨hi, ha⟩ := hi
  repeat' (first | refine vs_ ?_ | ((first | refine vr_ ?_ | fail) <;> (try simp (disch := first | omega | (simp only [List.length_set, List.length_append, List.length_cons, List.length_nil]; done) | (simp only [List.length_set, List.length_append, List.length_cons, List.length_nil]; omega)) only [qds, qb, q3n, qns, q8, go_sem, ↓reduceIte])) | ((first | (refine cs_ ?_ ?_ <;> intro hc) | refine cj_ ?_ | simp (disch := omega) only [encs_getN, qb]) <;> (try refine ev_ ?_)) | with_reducible exact ti_)
  ·rename_i hc
   rw [getA, ← ha, qkt (by omega), if_pos hc]
  ·rename_i hc
   refine qh (i + 1) [0] ⟨⟨by omega, ?_⟩, by omega⟩ rfl (by simp) ?_ ?_ ?_ <;> (try refine ev_ ?_) <;> (try with_reducible exact ti_) <;> (try simp (disch := omega) only [qb, and_true, true_and])
   rw [← ha, qkt (i := i) (by omega), if_neg hc]
  ·rw [getA, ← ha, List.drop_of_length_le (by omega), qbd]
def typA (p : Ty × Int) : AV := .tup [encY p.1, .int .i64 p.2]
theorem qx8 (k : Nat) (p : Ty × Int) : (typA p).bd k = true := by simp only [typA, AV.bd, AV.bds, qbp, Bool.and_true]
theorem qom {t : Ty} (h : qy t = true) : szY t ≤ 4096 ∧ dpY t ≤ 100 := ⟨((qbe t).1 h).1, ((qbe t).1 h).2.1⟩
end Go.Proofs.YtbbjelfnocmaoaaGreat
