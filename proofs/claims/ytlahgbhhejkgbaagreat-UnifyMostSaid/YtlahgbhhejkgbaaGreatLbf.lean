/- Texts of this proof, joined. -/
import Derived.Test.YtlahgbhhejkgbaaGreatLbe
import Derived.Test.YtlahgbhhejkgbaaGreatLbc

/- made one: pairs of types as data; the stack -/
set_option maxRecDepth 4000
namespace Go.V
open Go Go.RowKit
set_option linter.unusedVariables false
set_option linter.unusedSimpArgs false

section
variable {P : Program} {H : List Ent}
theorem q51 {w : World} {M : Nat → Nat → Prop} {G : List Gh} (i k : Nat) {q : Nat} {es : List AV} (hst : St w M G H) (he : ent H i = .mrow q es) : St w M G (H.set i (.mrow q (es.take k))) := by
 have hH := q6 he (by simp)
 obtain ⟨g, hg⟩ := hst.lenH hH
 obtain ⟨h1, ⟨r1, r2, vs, t, us, r3, r4, r5, r6, r7⟩, h9⟩ := hst.ok i g _ hg hH
 have hul : us.length = es.length := qd r5
 have htk : (es.take k).length ≤ es.length := by rw [List.length_take]; omega
 have hs := qgv (w' := w) (M' := M) (g' := g) (e := .mrow q (es.take k)) hst hg rfl (fun _ h => h) (Nat.le_refl _) (fun _ _ _ => rfl) (Le.refl w M) (fun _ _ h => .inl h) (by
  rw [qdh _ _ _ hg]
  refine ⟨h1, ⟨by omega, r2, vs, t, us.take k, r3, r4, qc2 r5 k, fun u hu => r6 u (List.mem_of_mem_take hu), ?_⟩, h9⟩
  have hfl := qbe (us := us.take k) fun u hu => r6 u (List.mem_of_mem_take hu)
  have hsp : us.flatMap (·.cells.toList) = (us.take k).flatMap (·.cells.toList) ++ (us.drop k).flatMap (·.cells.toList) := by rw [← List.flatMap_append, List.take_append_drop]
  have hle : q * (es.take k).length ≤ q * es.length := Nat.mul_le_mul_left q htk
  have e1 : vs.take (q * (es.take k).length) = (vs.take (q * es.length)).take (q * (es.take k).length) := by rw [List.take_take, Nat.min_eq_left hle]
  have e2 : ((us.take k).flatMap (·.cells.toList)).length = q * (es.take k).length := by rw [hfl, Nat.mul_comm, List.length_take, List.length_take, hul]
  rw [e1, r7, hsp, List.take_left' e2])
 rwa [qdh _ _ _ hg] at hs
theorem VCalls.cut {f : FuncId} {args : List AV} {Q Q' : List Ent → VO → Prop} (i k q : Nat) (h : VCalls P f H args Q) (hq : ∀ H' o, Q H' o → ∃ es, ent H' i = .mrow q es ∧ Q' (H'.set i (.mrow q (es.take k))) o) : VCalls P f H args Q' :=
 ⟨h.1, fun w M G vs hst hv => CallsIn.mono (h.2 w M G vs hst hv) fun e w' he => by
  cases e with
  | returned x =>
    obtain ⟨M', G', H', v, h1, h2, h3, h4⟩ := he
    obtain ⟨es, q1, q2⟩ := hq _ _ h1
    exact ⟨M', G', _, v, q2, h2, q51 i k h3 q1, h4⟩
  | panicked c =>
    obtain ⟨M', G', H', v, x, h1, h2, h3, h4, h5⟩ := he
    obtain ⟨es, q1, q2⟩ := hq _ _ h1
    exact ⟨M', G', _, v, x, q2, h2, q51 i k h3 q1, h4, h5⟩
  | outgrown => exact he⟩
end
def encW (x : Ty × Ty) : AV := .agg [.str x.1.con, .int .i64 x.1.var, .sl 3 (qq x.1.args), .str x.2.con, .int .i64 x.2.var, .sl 3 (qq x.2.args)]
def qbi (l : List (Ty × Ty)) : List AV := l.map encW
def W0 : Ty × Ty := (Y0, Y0)
abbrev wdc (x : Ty × Ty) : List AV := [.str x.1.con, .int .i64 x.1.var, .sl 3 (qq x.1.args), .str x.2.con, .int .i64 x.2.var, .sl 3 (qq x.2.args)]
theorem qwm (x : Ty × Ty) : AV.agg [.str x.1.con, .int .i64 x.1.var, .sl 3 (qq x.1.args), .str x.2.con, .int .i64 x.2.var, .sl 3 (qq x.2.args)] = encW x := rfl
theorem qtz (x : Ty × Ty) : (encW x).cells = wdc x := rfl
theorem qe4 (k : Nat) (x : Ty × Ty) : (encW x).bd k = true := by simp only [encW, AV.bd, AV.bds, qcd, Bool.and_true]
theorem qb1 (k : Nat) (l : List (Ty × Ty)) : AV.bds k (qbi l) = true := by rw [qbi, qdb, List.all_map, List.all_eq_true]; exact fun x _ => qe4 k x
theorem qil (σ : Nat → Nat) (x : Ty × Ty) : (encW x).ren σ = encW x := ren_same (m := 0) (fun i hi => by omega) _ (qe4 0 x)
theorem qoe (σ : Nat → Nat) (l : List (Ty × Ty)) : AV.rens σ (qbi l) = qbi l := qr (m := 0) (fun i hi => by omega) _ (qb1 0 l)
theorem qbed (H : List Ent) (x : Ty × Ty) : co H (.agg [.id, .id, .sl 3, .id, .id, .sl 3]) (encW x) = encW x := by
 simp only [encW, qrs, qin, qmv, quh, qir]
theorem qx5 (x : Ty × Ty) : rdCo (.agg [.id, .id, .sl 3, .id, .id, .sl 3]) (encW x) = [] := by
 simp only [encW, qi2, qfe, qg3, qnf, qff, List.append_nil]
theorem q3h (x : Ty × Ty) : (encW x).isAgg = true := rfl
theorem qpa (x : Ty × Ty) : (encW x).leaf = false := rfl
theorem qdp (l : List (Ty × Ty)) : (qbi l).length = l.length := by simp [qbi]
theorem qhk {l : List (Ty × Ty)} {i : Nat} (h : i < l.length) : (qbi l).getD i .junk = encW (l.getD i W0) := by
 rw [qbi, List.getD_eq_getElem?_getD, List.getElem?_map, List.getElem?_eq_getElem h, List.getD_eq_getElem?_getD, List.getElem?_eq_getElem h]; rfl
theorem qbs6 {l : List (Ty × Ty)} {i : Nat} (h : i < l.length) : l.drop i = l.getD i W0 :: l.drop (i + 1) := by
 rw [List.drop_eq_getElem_cons h, List.getD_eq_getElem?_getD, List.getElem?_eq_getElem h]; rfl
theorem qe9 (l : List (Ty × Ty)) (p : Ty × Ty) : qbi l ++ [encW p] = qbi (l ++ [p]) := by simp [qbi]
theorem ql5 (n : Nat) (l : List (Ty × Ty)) : (qbi l).take n = qbi (l.take n) := by simp [qbi]
theorem qth (n : Nat) (l : List (Ty × Ty)) : (qbi l).drop n = qbi (l.drop n) := by simp [qbi]
theorem q0d (b : Bool) (n off : Nat) (p : Ty × Ty) : fldv b n off (encW p) = ldc b n off (wdc p) := rfl
attribute [go_sem] wdc q0d qx5 qe4 qb1 qil qoe qbed q3h qtz qwm qpa qdp ql5 qth
end Go.V
namespace Go.Proofs.YtlahgbhhejkgbaaGreat
open Go Go.RowKit Go.V
set_option linter.unusedVariables false
set_option linter.unusedSimpArgs false

def stkH (b : Bool) (L : List (Ty × Ty)) : List Ent := if b = true then [.blk [.row 1 L.length], .mrow 6 (qbi L)] else [.blk [.nils]]
abbrev stkE (b : Bool) (L : List (Ty × Ty)) : Ent := bun (stkH b L)
theorem qs2 (L : List (Ty × Ty)) : stkH true L = [.blk [.row 1 L.length], .mrow 6 (qbi L)] := rfl
theorem qwk (L : List (Ty × Ty)) : stkH false L = [.blk [.nils]] := rfl
theorem qn1 {Q : List Ent → VO → Prop} {H' : List Ent} {r : VO} (h0 : ent H' 0 = .blk [.nils]) (hl : 0 < H'.length) (hr : r.bd 1 = true) (h : Q [stkE false []] r) : qch Q H' r :=
 ⟨[.blk [.nils]], [0], rfl, by simp, by simp, ⟨⟨hl, rfl, by rw [h0]; rfl⟩, trivial⟩, hr, h⟩
theorem qe2 {Q : List Ent → VO → Prop} {H' : List Ent} {r : VO} {L : List (Ty × Ty)} (k : Nat) (h0 : ent H' 0 = .blk [.row k L.length]) (h1 : ent H' k = .mrow 6 (qbi L)) (hk : 0 < k) (hl : k < H'.length) (hr : r.bd 1 = true) (h : Q [stkE true L] r) : qch Q H' r :=
 ⟨[.blk [.row 1 L.length], .mrow 6 (qbi L)], [0, k], rfl, by simp, by simp; omega, ⟨⟨by omega, rfl, by rw [h0]; rfl⟩, ⟨hl, qb1 _ _, by rw [h1]; simp only [Ent.ren, qoe]⟩, trivial⟩, hr, h⟩
def psH : Bool → Nat → List (Ty × Ty) → List Ent
 | true, 0, K => [.blk [.row 1 K.length], .mrow 6 (qbi K)]
 | true, _ + 1, K => [.blk [.row 2 K.length], .dead, .mrow 6 (qbi K)]
 | false, 0, _ => [.blk [.nils]]
 | false, _ + 1, K => [.blk [.row 1 K.length], .mrow 6 (qbi K)]
theorem qbow (K : List (Ty × Ty)) : psH false 0 K = [.blk [.nils]] := rfl
theorem qrk (j : Nat) (K : List (Ty × Ty)) : psH false (j + 1) K = [.blk [.row 1 K.length], .mrow 6 (qbi K)] := rfl
theorem qbpt (K : List (Ty × Ty)) : psH true 0 K = [.blk [.row 1 K.length], .mrow 6 (qbi K)] := rfl
theorem qsa (j : Nat) (K : List (Ty × Ty)) : psH true (j + 1) K = [.blk [.row 2 K.length], .dead, .mrow 6 (qbi K)] := rfl
def psSt (b : Bool) (L l : List (Ty × Ty)) (j : Nat) : AF × List Ent := (⟨[(0, .ptr 0 0), (1, .sl 6 (qbi l)), (4, .int .i64 ((l.length : Int) - 1 - j))], []⟩, psH b j (L ++ (l.drop (l.length - j)).reverse))
theorem qnq {l : List (Ty × Ty)} {j : Nat} (h : j < l.length) (L : List (Ty × Ty)) : L ++ (l.drop (l.length - (j + 1))).reverse = (L ++ (l.drop (l.length - j)).reverse) ++ [l.getD (l.length - 1 - j) W0] := by
 have h1 : l.length - 1 - j < l.length := by omega
 have h2 := qbs6 h1
 rw [show l.length - 1 - j + 1 = l.length - j by omega] at h2
 rw [show l.length - (j + 1) = l.length - 1 - j by omega, h2, List.reverse_cons, List.append_assoc]
theorem qbkp (b : Bool) (L : List (Ty × Ty)) (hb : b = false → L = []) : VCalls Tryz.prog 44 (stkH b L) [.ptr 0 0, .sl 6 []] (qch fun H' o => H' = [stkE b L] ∧ o = .val (.tup [])) := by
 cases b with
 | false =>
   rw [hb rfl, qwk]
   refine qe c0q 1 (by simp) (by simp) ?_
   repeat' (first | refine vs_ ?_ | ((first | refine vr_ ?_ | (refine cs_ ?_ ?_ <;> intro hc) | refine cj_ ?_ | simp (disch := omega) only [encs_getN, qb]) <;> (try refine ev_ ?_)) | with_reducible exact ti_)
   refine qp (S := Unit) (fun _ => True) (fun _ => (⟨[(0, .ptr 0 0), (1, .sl 6 []), (4, .int .i64 (-1))], []⟩, [.blk [.nils]])) (fun _ => 0) ?_ fun _ _ => ?_
   ·refine qm () [0] trivial rfl (by simp) ?_ ?_ ?_ <;> (try refine ev_ ?_) <;> (try with_reducible exact ti_) <;> (try simp (disch := omega) only [qb, and_true, true_and])
    all_goals rfl
   ·repeat' (first | refine vs_ ?_ | ((first | refine vr_ ?_ | (refine cs_ ?_ ?_ <;> intro hc) | refine cj_ ?_ | simp (disch := omega) only [encs_getN, qb]) <;> (try refine ev_ ?_)) | with_reducible exact ti_)
    all_goals try (exfalso; revert hc; decide)
    exact qn1 rfl (by simp) rfl ⟨rfl, rfl⟩
 | true =>
   rw [qs2]
   refine qe c0q 2 (by simp) (by simp [Ent.bd, qb1]) ?_
   repeat' (first | refine vs_ ?_ | ((first | refine vr_ ?_ | (refine cs_ ?_ ?_ <;> intro hc) | refine cj_ ?_ | simp (disch := omega) only [encs_getN, qb]) <;> (try refine ev_ ?_)) | with_reducible exact ti_)
   refine qp (S := Unit) (fun _ => True) (fun _ => (⟨[(0, .ptr 0 0), (1, .sl 6 []), (4, .int .i64 (-1))], []⟩, [.blk [.row 1 L.length], .mrow 6 (qbi L)])) (fun _ => 0) ?_ fun _ _ => ?_
   ·refine qm () [0, 1] trivial rfl (by simp) ?_ ?_ ?_ <;> (try refine ev_ ?_) <;> (try with_reducible exact ti_) <;> (try simp (disch := omega) only [qb, and_true, true_and])
    all_goals rfl
   ·repeat' (first | refine vs_ ?_ | ((first | refine vr_ ?_ | (refine cs_ ?_ ?_ <;> intro hc) | refine cj_ ?_ | simp (disch := omega) only [encs_getN, qb]) <;> (try refine ev_ ?_)) | with_reducible exact ti_)
    all_goals try (exfalso; revert hc; decide)
    exact qe2 1 rfl rfl (by simp) (by simp) rfl ⟨rfl, rfl⟩
set_option maxHeartbeats 1000000 in
theorem qbpp (l : List (Ty × Ty)) (hne : l ≠ []) (hlen : l.length ≤ 100000000) :
 VCalls Tryz.prog 44 (stkH false []) [.ptr 0 0, .sl 6 (qbi l)] (qch fun H' o => H' = [stkE true l.reverse] ∧ o = .val (.tup [])) := by
 rw [qwk]
 refine qe c0q 2 (by simp) (by simp) ?_
 repeat' (first | refine vs_ ?_ | ((first | refine vr_ ?_ | (refine cs_ ?_ ?_ <;> intro hc) | refine cj_ ?_ | simp (disch := omega) only [encs_getN, qb]) <;> (try refine ev_ ?_)) | with_reducible exact ti_)
 refine qp (S := Nat) (fun j => j ≤ l.length) (psSt false [] l) (fun j => l.length - j) ?_ fun j hj => ?_
 ·refine qm 0 [0] (Nat.zero_le _) rfl (by simp) ?_ ?_ ?_ <;> simp only [psSt, psH] <;> (try refine ev_ ?_) <;> (try with_reducible exact ti_) <;> (try simp (disch := omega) only [qb, and_true, true_and])
  rw [qt (by omega) (by omega)]; simp
 ·unfold psSt
  by_cases hlt : j < l.length
  ·have hg := qhk (l := l) (i := l.length - 1 - j) (by omega)
   have hcons := qnq hlt []
   have hsub : ((l.length : Int) - 1 - j).toNat = l.length - 1 - j := by omega
   rw [List.nil_append] at hcons
   have hlk : (([] : List (Ty × Ty)) ++ (l.drop (l.length - j)).reverse).length = j := by rw [List.nil_append, List.length_reverse, List.length_drop]; omega
   cases j with
   | zero =>
     have hn : ([] : List (Ty × Ty)) ++ (l.drop (l.length - 0)).reverse = [] := List.length_eq_zero_iff.1 hlk
     rw [hn, List.nil_append] at hcons
     have hsub : ((l.length : Int) - 1 - 0).toNat = l.length - 1 - 0 := by omega
     have h0 : (0 : Int) ≤ (l.length : Int) - 1 - 0 := by omega
     rw [qbow]
     have hcap : qb3 1 96 = True := eq_true (by unfold qb3; omega)
     repeat' (first | refine vs_ ?_ | ((first | refine vr_ ?_ | fail) <;> (try simp (disch := first | omega | (simp only [List.length_set, List.length_append, List.length_cons, List.length_nil]; done) | (simp only [List.length_set, List.length_append, List.length_cons, List.length_nil]; omega)) only [hg, hsub, qb, go_sem, ↓reduceIte])) | ((first | simp (disch := omega) only [hg] | simp (disch := omega) only [hcap] | (refine cs_ ?_ ?_ <;> intro hc) | refine cj_ ?_ | simp (disch := omega) only [encs_getN, qb]) <;> (try refine ev_ ?_)) | with_reducible exact ti_)
     all_goals try (exfalso; omega)
     refine qm 1 [0, 1] ⟨by omega, by omega⟩ rfl (by simp) ?_ ?_ ?_ <;> simp only [psSt, qrk, List.nil_append, hcons, List.length_singleton] <;> (try refine ev_ ?_) <;> (try with_reducible exact ti_) <;> (try simp (disch := omega) only [qb, and_true, true_and])
     ·rfl
     ·rw [qt (by omega) (by omega)]; congr 1; omega
   | succ j =>
     rw [List.nil_append] at hlk ⊢
     generalize hK : (l.drop (l.length - (j + 1))).reverse = K at hcons hlk
     rw [qrk]
     have hcap : qb3 (K.length + 1) 96 = True := eq_true (by unfold qb3; omega)
     repeat' (first | refine vs_ ?_ | ((first | refine vr_ ?_ | fail) <;> (try simp (disch := first | omega | (simp only [List.length_set, List.length_append, List.length_cons, List.length_nil]; done) | (simp only [List.length_set, List.length_append, List.length_cons, List.length_nil]; omega)) only [hg, hsub, qb, qdp, go_sem, ↓reduceIte])) | ((first | simp (disch := omega) only [hg] | simp (disch := omega) only [hcap] | (refine cs_ ?_ ?_ <;> intro hc) | refine cj_ ?_ | simp (disch := omega) only [encs_getN, qb]) <;> (try refine ev_ ?_)) | with_reducible exact ti_)
     all_goals try (exfalso; omega)
     refine qm (j + 1 + 1) [0, 2] ⟨by omega, by omega⟩ rfl (by simp) ?_ ?_ ?_ <;> simp only [psSt, qrk, List.nil_append, hcons, List.length_append, List.length_singleton] <;> (try refine ev_ ?_) <;> (try with_reducible exact ti_) <;> (try simp (disch := omega) only [qb, and_true, true_and])
     ·rw [qe9]
     ·rw [qt (by omega) (by omega)]; congr 1; omega
  ·have hjl : j = l.length := by omega
   subst hjl
   rw [Nat.sub_self, List.drop_zero, List.nil_append]
   cases hz : l.length with
   | zero => exact absurd (List.length_eq_zero_iff.1 hz) hne
   | succ k =>
     rw [qrk]
     repeat' (first | refine vs_ ?_ | ((first | refine vr_ ?_ | (refine cs_ ?_ ?_ <;> intro hc) | refine cj_ ?_ | simp (disch := omega) only [encs_getN, qb]) <;> (try refine ev_ ?_)) | with_reducible exact ti_)
     all_goals try (exfalso; omega)
     exact qe2 1 rfl rfl (by simp) (by simp) rfl ⟨rfl, rfl⟩
set_option maxHeartbeats 1000000 in
theorem qbq4 (L l : List (Ty × Ty)) (hne : l ≠ []) (hlen : L.length + l.length ≤ 100000000) :
 VCalls Tryz.prog 44 (stkH true L) [.ptr 0 0, .sl 6 (qbi l)] (qch fun H' o => H' = [stkE true (L ++ l.reverse)] ∧ o = .val (.tup [])) := by
 rw [qs2]
 refine qe c0q 3 (by simp) (by simp [Ent.bd, qb1]) ?_
 repeat' (first | refine vs_ ?_ | ((first | refine vr_ ?_ | (refine cs_ ?_ ?_ <;> intro hc) | refine cj_ ?_ | simp (disch := omega) only [encs_getN, qb]) <;> (try refine ev_ ?_)) | with_reducible exact ti_)
 refine qp (S := Nat) (fun j => j ≤ l.length) (psSt true L l) (fun j => l.length - j) ?_ fun j hj => ?_
 ·refine qm 0 [0, 1] (Nat.zero_le _) rfl (by simp) ?_ ?_ ?_ <;> simp only [psSt, psH] <;> (try refine ev_ ?_) <;> (try with_reducible exact ti_) <;> (try simp (disch := omega) only [qb, and_true, true_and])
  ·simp
  ·rw [qt (by omega) (by omega)]; simp
 ·unfold psSt
  by_cases hlt : j < l.length
  ·have hg := qhk (l := l) (i := l.length - 1 - j) (by omega)
   have hcons := qnq hlt L
   have hsub : ((l.length : Int) - 1 - j).toNat = l.length - 1 - j := by omega
   have hlk : (L ++ (l.drop (l.length - j)).reverse).length = L.length + j := by rw [List.length_append, List.length_reverse, List.length_drop]; omega
   cases j with
   | zero =>
     have hn : L ++ (l.drop (l.length - 0)).reverse = L := by simp
     rw [hn] at hcons ⊢
     have hsub : ((l.length : Int) - 1 - 0).toNat = l.length - 1 - 0 := by omega
     have h0 : (0 : Int) ≤ (l.length : Int) - 1 - 0 := by omega
     rw [qbpt]
     have hcap : qb3 (L.length + 1) 96 = True := eq_true (by unfold qb3; omega)
     repeat' (first | refine vs_ ?_ | ((first | refine vr_ ?_ | fail) <;> (try simp (disch := first | omega | (simp only [List.length_set, List.length_append, List.length_cons, List.length_nil]; done) | (simp only [List.length_set, List.length_append, List.length_cons, List.length_nil]; omega)) only [hg, hsub, qb, qdp, go_sem, ↓reduceIte])) | ((first | simp (disch := omega) only [hg] | simp (disch := omega) only [hcap] | (refine cs_ ?_ ?_ <;> intro hc) | refine cj_ ?_ | simp (disch := omega) only [encs_getN, qb]) <;> (try refine ev_ ?_)) | with_reducible exact ti_)
     all_goals try (exfalso; omega)
     refine qm 1 [0, 1, 2] ⟨by omega, by omega⟩ rfl (by simp) ?_ ?_ ?_ <;> simp only [psSt, qsa, hcons, List.length_append, List.length_singleton] <;> (try refine ev_ ?_) <;> (try with_reducible exact ti_) <;> (try simp (disch := omega) only [qb, and_true, true_and])
     ·rw [qe9]
     ·rw [qt (by omega) (by omega)]; congr 1; omega
   | succ j =>
     generalize hK : L ++ (l.drop (l.length - (j + 1))).reverse = K at hcons hlk
     rw [qsa]
     have hcap : qb3 (K.length + 1) 96 = True := eq_true (by unfold qb3; omega)
     repeat' (first | refine vs_ ?_ | ((first | refine vr_ ?_ | fail) <;> (try simp (disch := first | omega | (simp only [List.length_set, List.length_append, List.length_cons, List.length_nil]; done) | (simp only [List.length_set, List.length_append, List.length_cons, List.length_nil]; omega)) only [hg, hsub, qb, qdp, go_sem, ↓reduceIte])) | ((first | simp (disch := omega) only [hg] | simp (disch := omega) only [hcap] | (refine cs_ ?_ ?_ <;> intro hc) | refine cj_ ?_ | simp (disch := omega) only [encs_getN, qb]) <;> (try refine ev_ ?_)) | with_reducible exact ti_)
     all_goals try (exfalso; omega)
     refine qm (j + 1 + 1) [0, 1, 3] ⟨by omega, by omega⟩ rfl (by simp) ?_ ?_ ?_ <;> simp only [psSt, qsa, hcons, List.length_append, List.length_singleton] <;> (try refine ev_ ?_) <;> (try with_reducible exact ti_) <;> (try simp (disch := omega) only [qb, and_true, true_and])
     ·rw [qe9]
     ·rw [qt (by omega) (by omega)]; congr 1; omega
  ·have hjl : j = l.length := by omega
   subst hjl
   rw [Nat.sub_self, List.drop_zero]
   cases hz : l.length with
   | zero => exact absurd (List.length_eq_zero_iff.1 hz) hne
   | succ k =>
     rw [qsa]
     repeat' (first | refine vs_ ?_ | ((first | refine vr_ ?_ | (refine cs_ ?_ ?_ <;> intro hc) | refine cj_ ?_ | simp (disch := omega) only [encs_getN, qb]) <;> (try refine ev_ ?_)) | with_reducible exact ti_)
     all_goals try (exfalso; omega)
     exact qe2 2 (by rw [List.length_append]; rfl) rfl (by simp) (by simp) rfl ⟨rfl, rfl⟩
theorem qtc (b : Bool) (L l : List (Ty × Ty)) (hb : b = false → L = []) (hlen : L.length + l.length ≤ 100000000) :
 VM Tryz.prog 44 (stkE b L) (stkE (b || decide (l ≠ [])) (L ++ l.reverse)) [.ptr 0 0, .sl 6 (qbi l)] (.tup []) := by
 refine qfq ?_ (by simp only [AV.bds, AV.bd, qb1, Bool.and_true]; rfl)
 by_cases hl : l = []
 ·subst hl
  have h := qbkp b L hb
  rw [show decide (([] : List (Ty × Ty)) ≠ []) = false from rfl, Bool.or_false, List.reverse_nil, List.append_nil]
  exact h
 ·rw [decide_eq_true hl, Bool.or_true]
  cases b with
  | false =>
    have hL := hb rfl
    subst hL
    exact qbpp l hl (by simpa using hlen)
  | true => exact qbq4 L l hl hlen
def popA (x : Ty × Ty) (b : Bool) : AV := .tup [encW x, .bool b]
theorem qra (k : Nat) (x : Ty × Ty) (b : Bool) : (popA x b).bd k = true := by simp only [popA, AV.bd, AV.bds, qe4, Bool.and_true]
theorem qz8 (b : Bool) : VM Tryz.prog 45 (stkE b []) (stkE b []) [.ptr 0 0] (.tup [encW W0, .bool false]) := by
 refine qfq ?_ rfl
 cases b with
 | false =>
   rw [qwk]
   refine qe c0r 1 (by simp) (by simp) ?_
   repeat' (first | refine vs_ ?_ | ((first | refine vr_ ?_ | (refine cs_ ?_ ?_ <;> intro hc) | refine cj_ ?_ | simp (disch := omega) only [encs_getN, qb]) <;> (try refine ev_ ?_)) | with_reducible exact ti_)
   all_goals try (exfalso; revert hc; decide)
   exact qn1 rfl (by simp) rfl ⟨rfl, rfl⟩
 | true =>
   rw [qs2]
   refine qe c0r 2 (by simp) (by simp [Ent.bd, qb1]) ?_
   repeat' (first | refine vs_ ?_ | ((first | refine vr_ ?_ | (refine cs_ ?_ ?_ <;> intro hc) | refine cj_ ?_ | simp (disch := omega) only [encs_getN, qb]) <;> (try refine ev_ ?_)) | with_reducible exact ti_)
   all_goals try (exfalso; revert hc; decide)
   exact qe2 (L := []) 1 rfl rfl (by simp) (by simp) rfl ⟨rfl, rfl⟩
theorem qbd5 (L : List (Ty × Ty)) (x : Ty × Ty) (hlen : L.length ≤ 100000000) : VM Tryz.prog 45 (stkE true (L ++ [x])) (stkE true L) [.ptr 0 0] (.tup [encW x, .bool true]) := by
 refine qfq ?_ rfl
 rw [qs2]
 refine VCalls.cut 1 L.length 6 (Q := fun H' o => H' = [.blk [.row 1 L.length], .mrow 6 (qbi (L ++ [x]))] ∧ o = .val (popA x true)) ?_ fun H' o hq => ?_
 case refine_2 =>
  obtain ⟨rfl, rfl⟩ := hq
  refine ⟨_, rfl, ?_⟩
  refine qe2 (L := L) 1 rfl ?_ (by simp) (by simp) (qra 1 x true) ⟨rfl, rfl⟩
  show Ent.mrow 6 ((qbi (L ++ [x])).take L.length) = _
  rw [ql5, List.take_left]
 refine qe c0r 2 (by simp) (by simp [Ent.bd, qb1]) ?_
 have hx : (qbi (L ++ [x])).getD L.length .junk = encW x := by
  rw [qhk (by simp), List.getD_eq_getElem?_getD, List.getElem?_append_right (Nat.le_refl _)]; simp
 rw [List.length_append, List.length_singleton]
 have hsub : (((L.length + 1 : Nat) : Int) - 1).toNat = L.length := by omega
 have hw1 : IntKind.i64.wrap (((L.length + 1 : Nat) : Int) - 1) = L.length := by rw [qt (by omega) (by omega)]; omega
 have hmx : L.length + 1 ≤ maxLen := by unfold maxLen; omega
 repeat' (first | refine vs_ ?_ | ((first | refine vr_ ?_ | fail) <;> (try simp only [hx, hw1, go_sem, ↓reduceIte])) | ((first | simp (disch := omega) only [hw1] | simp (disch := omega) only [hx] | (refine cs_ ?_ ?_ <;> intro hc) | refine cj_ ?_ | simp (disch := omega) only [encs_getN, qb]) <;> (try refine ev_ ?_)) | with_reducible exact ti_)
 ·exfalso; omega
 ·rfl
end Go.Proofs.YtlahgbhhejkgbaaGreat

/- matching: what it does -/
namespace Go.Proofs.YtlahgbhhejkgbaaGreat
open Go Go.RowKit Go.V
set_option linter.unusedVariables false
set_option linter.unusedSimpArgs false

mutual
def onP : Ty → Ty → List Pr → List Pr × Bool
 | .mk c v l, t, s => if c = [] then (match qi v s with | some u => (s, qhd u t) | none => ((setR s v t).1, decide ((setR s v t).2 = 0)))
  else if c = t.con then (if l.length = t.args.length then onPs l t.args s else (s, false)) else (s, false)
def onPs : List Ty → List Ty → List Pr → List Pr × Bool
 | [], _, s => (s, true)
 | x :: r, m, s => if (onP x (m.headD Y0) s).2 = true then onPs r m.tail (onP x (m.headD Y0) s).1 else ((onP x (m.headD Y0) s).1, false)
end
theorem qbry (p t : Ty) (s : List Pr) : onP p t s = if p.con = [] then (match qi p.var s with | some u => (s, qhd u t) | none => ((setR s p.var t).1, decide ((setR s p.var t).2 = 0)))
 else if p.con = t.con then (if p.args.length = t.args.length then onPs p.args t.args s else (s, false)) else (s, false) := by
 cases p; rw [onP]; rfl
theorem qzj {l m : List Ty} {i : Nat} (h : i < l.length) (h' : i < m.length) (s : List Pr) : onPs (l.drop i) (m.drop i) s = if (onP (l.getD i Y0) (m.getD i Y0) s).2 = true then onPs (l.drop (i + 1)) (m.drop (i + 1)) (onP (l.getD i Y0) (m.getD i Y0) s).1 else ((onP (l.getD i Y0) (m.getD i Y0) s).1, false) := by
 rw [qhn h, qhn h', onPs]; rfl
theorem qz6 {l m : List Ty} {i : Nat} (h : l.length ≤ i) (s : List Pr) : onPs (l.drop i) (m.drop i) s = (s, true) := by
 rw [List.drop_of_length_le h, onPs]
mutual
theorem q5q : ∀ (p t : Ty) (s : List Pr), okS s → okS (onP p t s).1 ∧ (onP p t s).1.length ≤ s.length + szY p
 | .mk c v l, t, s, h => by
   rw [onP, szY]
   split
   ·cases hl : qi v s with
    | some u => exact ⟨h, by dsimp only; omega⟩
    | none => exact ⟨qkn h v t, by have := qiy s v t; dsimp only; omega⟩
   split
   ·split
    ·have := qxo l t.args s h
     exact ⟨this.1, by omega⟩
    ·exact ⟨h, by dsimp only; omega⟩
   ·exact ⟨h, by dsimp only; omega⟩
theorem qxo : ∀ (l m : List Ty) (s : List Pr), okS s → okS (onPs l m s).1 ∧ (onPs l m s).1.length ≤ s.length + szYs l
 | [], m, s, h => by rw [onPs, szYs]; exact ⟨h, by dsimp only; omega⟩
 | x :: r, m, s, h => by
   have h1 := q5q x (m.headD Y0) s h
   rw [onPs, szYs]
   split
   ·have h2 := qxo r m.tail _ h1.1
    exact ⟨h2.1, by omega⟩
   ·exact ⟨h1.1, by dsimp only; omega⟩
end
def q4f (l m : List Ty) (s : List Pr) : List Pr × Bool := if l.length = m.length then onPs l m s else (s, false)
def allP (l m : List Ty) : List Pr × Int := if l.all qc = true ∧ m.all qc = true then (if (q4f l m []).2 = true then ((q4f l m []).1, 0) else ([], 14)) else ([], 1)
def matP (p t : Ty) : List Pr × Int := allP [p] [t]
def abvP (p t : Ty) : Bool := decide ((matP p t).2 = 0)
end Go.Proofs.YtlahgbhhejkgbaaGreat
