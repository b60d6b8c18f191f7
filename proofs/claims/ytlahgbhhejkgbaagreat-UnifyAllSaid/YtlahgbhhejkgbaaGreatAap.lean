/- Texts of this proof, joined. -/
import Derived.Test.YtlahgbhhejkgbaaGreatAao
import Derived.Test.YtlahgbhhejkgbaaGreatAal

/- the lexer's words: rows of bytes -/
set_option maxRecDepth 4000
namespace Go.Proofs.YtlahgbhhejkgbaaGreat
open Go Go.RowKit Go.V
set_option linter.unusedVariables false
set_option linter.unusedSimpArgs false

def pfx (p l : List UInt8) : Bool := decide (l.take p.length = p)
theorem qjm (l p : List UInt8) : ql Tryz.prog 104 [.str l, .str p] (.bool (pfx p l)) := by
 refine qf c0ci (by simp) (by simp only [go_sem]) rfl fun hw => ?_
 repeat' (first | refine vs_ ?_ | ((first | refine vr_ ?_ | (refine cs_ ?_ ?_ <;> intro hc) | refine cj_ ?_ | fail) <;> (try refine ev_ ?_)) | with_reducible exact ti_)
 ·rfl
 ·rw [pfx, decide_eq_false]
  intro h
  have := congrArg List.length h
  rw [List.length_take] at this
  omega
theorem qo (l p : List UInt8) : ql Tryz.prog 86 [.str l, .str p] (.bool (pfx p l)) := by
 refine qf c0cj (by simp) (by simp only [go_sem]) rfl fun hw => ?_
 repeat' (first | refine vs_ ?_ | ((first | refine vr_ ?_ | refine qa (qjm _ _) fun _ => ?_ | (refine cs_ ?_ ?_ <;> intro hc) | refine cj_ ?_ | fail) <;> (try refine ev_ ?_)) | with_reducible exact ti_)

set_option maxRecDepth 4000

theorem qqf {z : Int} (h0 : 0 ≤ z) (h1 : z ≤ 255) : IntKind.u8.wrap z = z := by
 unfold IntKind.wrap IntKind.signed IntKind.bits
 simp only [Bool.false_and, Bool.false_eq_true, if_false]
 omega
theorem qii {z : Int} (h0 : 0 ≤ z) (h1 : z < 18446744073709551616) : IntKind.u64.wrap z = z := by
 unfold IntKind.wrap IntKind.signed IntKind.bits
 simp only [Bool.false_and, Bool.false_eq_true, if_false]
 omega
theorem qs1 {z : Int} (h0 : z < 0) (h1 : -9223372036854775808 ≤ z) : IntKind.u64.wrap z = z + 18446744073709551616 := by
 unfold IntKind.wrap IntKind.signed IntKind.bits
 simp only [Bool.false_and, Bool.false_eq_true, if_false]
 omega
theorem qk3 {n : Int} (h : (Lit.int .i64 n).wf = true) : -9223372036854775808 ≤ n ∧ n ≤ 9223372036854775807 := by
 simpa [Lit.wf, IntKind.min, IntKind.max, IntKind.signed, IntKind.bits] using h
def absI (n : Int) : Int := n.natAbs
theorem qv6 (n : Int) : ql Tryz.prog 110 [.int .i64 n] (.int .u64 (absI n)) := by
 refine qf c0cw (by simp) (by simp only [go_sem]) rfl fun hw => ?_
 have hn := qk3 hw.1
 repeat' (first | refine vs_ ?_ | ((first | refine vr_ ?_ | (refine cs_ ?_ ?_ <;> intro hc) | refine cj_ ?_ | fail) <;> (try refine ev_ ?_)) | with_reducible exact ti_)
 ·have h1 : IntKind.u64.wrap (0 - IntKind.u64.wrap n) = absI n := by
   rw [qs1 (by omega) hn.1, show (0 : Int) - (n + 18446744073709551616) = (-n) - 18446744073709551616 by omega]
   have : IntKind.u64.wrap (-n - 18446744073709551616) = -n := by
    unfold IntKind.wrap IntKind.signed IntKind.bits
    simp only [Bool.false_and, Bool.false_eq_true, if_false]
    omega
   rw [this, absI]; omega
  rw [h1]
 ·have h1 : IntKind.u64.wrap n = absI n := by rw [qii (by omega) (by omega), absI]; omega
  rw [h1]

theorem qpk {u : Nat} (h : 9 < u) (s : List UInt8) : digN (u / 10) ++ (UInt8.ofNat (48 + u % 10) :: s) = digN u ++ s := by
 rw [qr7 (u := u) (by omega)]; simp
theorem qs0 {u : Nat} (h : u < 18446744073709551616) : (digN u).length ≤ 20 := qti 19 u (by omega)
theorem q7h (u : Nat) : (u : Int).tmod 10 = ((u % 10 : Nat) : Int) := by rw [Int.tmod_eq_emod_of_nonneg (by omega)]; omega
theorem q7t (u : Nat) : (u : Int).tdiv 10 = ((u / 10 : Nat) : Int) := by rw [Int.tdiv_eq_ediv_of_nonneg (by omega)]; omega
theorem qs2 {u : Nat} : IntKind.u8.wrap (IntKind.u64.wrap (48 + ((u % 10 : Nat) : Int))) = ((48 + u % 10 : Nat) : Int) := by
 rw [qii (by omega) (by omega), qqf (by omega) (by omega)]; omega
theorem qyg {u : Nat} (h : u ≤ 9) : IntKind.u8.wrap (IntKind.u64.wrap (48 + (u : Int))) = ((48 + u : Nat) : Int) := by
 rw [qii (by omega) (by omega), qqf (by omega) (by omega)]; omega
theorem q0u (u : Nat) (h : u < 18446744073709551616) : IntKind.u64.wrap ((u / 10 : Nat) : Int) = ((u / 10 : Nat) : Int) := qii (by omega) (by omega)
attribute [go_sem] qet qk7 Int.toNat_natCast
theorem qbxw {u u' : Nat} {s : List UInt8} (h : digN u ++ s = digN u' ) (h' : u' < 18446744073709551616) : s.length ≤ 20 := by
 have h1 := congrArg List.length h
 rw [List.length_append] at h1
 have := qs0 h'
 omega
theorem qlo (n : Int) : ql Tryz.prog 92 [.int .i64 n] (.str (digI n)) := by
 refine qf c0cx (by simp) (by simp only [go_sem]) rfl fun hw => ?_
 have hn := qk3 hw.1
 have ha : n.natAbs < 18446744073709551616 := by omega
 repeat' (first | refine vs_ ?_ | ((first | refine vr_ ?_ | refine qa (qv6 _) fun _ => ?_ | (refine cs_ ?_ ?_ <;> intro hc) | refine cj_ ?_ | simp (disch := omega) only [encs_getN, qb]) <;> (try refine ev_ ?_)) | with_reducible exact ti_)
 refine qq (S := Nat × List UInt8) (fun x => digN x.1 ++ x.2 = digN n.natAbs ∧ x.1 < 18446744073709551616) (fun x => (⟨[(0, .int .i64 n), (3, .int .u64 x.1), (4, .str x.2)], []⟩, [])) (fun x => x.1) ?_ fun x hx => ?_
 ·refine qh (n.natAbs, []) [] ⟨by simp, ha⟩ rfl (by simp) ?_ ?_ ?_ <;> (try refine ev_ ?_) <;> (try with_reducible exact ti_) <;> (try simp (disch := omega) only [qb, and_true, true_and])
  rfl
 ·obtain ⟨u, s⟩ := x
  obtain ⟨h1, h2⟩ := hx
  dsimp only at h1 h2
  have hl := qbxw h1 ha
  have hm : 1 + s.length ≤ maxLen := by unfold maxLen; omega
  have hm2 : 1 + (s.length + 1) ≤ maxLen := by unfold maxLen; omega
  repeat' (first | refine vs_ ?_ | ((first | refine vr_ ?_ | fail) <;> (try simp (disch := first | omega | (simp only [List.length_set, List.length_append, List.length_cons, List.length_nil]; done) | (simp only [List.length_set, List.length_append, List.length_cons, List.length_nil]; omega)) only [q7h, q7t, qs2, qyg, q0u u h2, go_sem, ↓reduceIte])) | ((first | (refine cs_ ?_ ?_ <;> intro hc) | refine cj_ ?_ | simp (disch := omega) only [encs_getN, qb]) <;> (try refine ev_ ?_)) | with_reducible exact ti_)
  ·refine qh (u / 10, UInt8.ofNat (48 + u % 10) :: s) [] ⟨⟨by rw [qpk (by omega)]; exact h1, by dsimp only; omega⟩, by dsimp only; omega⟩ rfl (by simp) ?_ ?_ ?_ <;> (try refine ev_ ?_) <;> (try with_reducible exact ti_) <;> (try simp (disch := omega) only [qb, and_true, true_and])
  ·rw [digI, if_pos (by assumption), ← h1, qgj (by omega)]; rfl
  ·rw [digI, if_neg (by assumption), ← h1, qgj (by omega)]; rfl

/-! the program's: an array of 20 bytes, filled from behind -/
def e8 (c : UInt8) : AV := .int .u8 c.toNat
def qc8 (s : List UInt8) : List AV := List.replicate (20 - s.length) (.int .u8 0) ++ s.map e8
theorem qlr {s : List UInt8} (h : s.length ≤ 20) : (qc8 s).length = 20 := by simp [qc8]; omega
theorem qut {s : List UInt8} {c : UInt8} (h : s.length < 20) : (qc8 s).set (19 - s.length) (.int .u8 c.toNat) = qc8 (c :: s) := by
 obtain ⟨k, hk⟩ : ∃ k, 20 - s.length = k + 1 := ⟨19 - s.length, by omega⟩
 have h1 : 19 - s.length = k := by omega
 have h2 : 20 - (c :: s).length = k := by simp; omega
 rw [qc8, qc8, hk, h1, h2, List.replicate_succ', List.append_assoc, List.set_append_right _ _ (by simp)]
 simp [e8]
theorem qyy {s : List UInt8} (h : s.length ≤ 20) : tk (20 - s.length) (20 - (20 - s.length)) (qc8 s) = s.map e8 := by
 rw [tk, qc8, List.drop_append, List.drop_of_length_le (by simp)]
 simp only [List.length_replicate, Nat.sub_self, List.drop_zero, List.nil_append]
 rw [List.take_of_length_le (by simp; omega)]
theorem q38 (s : List UInt8) : (s.map e8).all qet = true := by simp [e8, qet]
theorem qbnk (s : List UInt8) : (s.map e8).map qk7 = s := by
 rw [List.map_map]
 refine (List.map_congr_left fun c _ => ?_).trans (List.map_id s)
 simp [e8, qk7]
theorem qmc {k : Nat} {s : List UInt8} : AV.bds k (qc8 s) = true := by
 rw [qc8, qdj]; simp [e8, AV.bd]
theorem qvn {σ : Nat → Nat} {s : List UInt8} : AV.rens σ (qc8 s) = qc8 s := qw (m := 0) (fun i hi => by omega) _ qmc
attribute [go_sem] qmc qvn
theorem qbw6 {k : Nat} (h : k < 20) : IntKind.i64.wrap (((20 - k : Nat) : Int) - 1) = ((19 - k : Nat) : Int) := by
 have h1 : ((20 - k : Nat) : Int) - 1 = ((19 - k : Nat) : Int) := by omega
 rw [h1]
 exact qnz (by omega) (by unfold maxLen; omega)
theorem qbcl {n : Int} (hn : -9223372036854775808 ≤ n ∧ n ≤ 9223372036854775807) : (n < 0 → IntKind.u64.wrap (0 - IntKind.u64.wrap n) = n.natAbs) ∧ (¬ n < 0 → IntKind.u64.wrap n = n.natAbs) := by
 refine ⟨fun h => ?_, fun h => ?_⟩
 ·rw [qs1 (by omega) hn.1, show (0 : Int) - (n + 18446744073709551616) = (-n) - 18446744073709551616 by omega]
  have : IntKind.u64.wrap (-n - 18446744073709551616) = -n := by
   unfold IntKind.wrap IntKind.signed IntKind.bits
   simp only [Bool.false_and, Bool.false_eq_true, if_false]
   omega
  rw [this]; omega
 ·rw [qii (by omega) (by omega)]; omega
def e8s (s : List UInt8) : List AV := s.map e8
theorem qzm (s : List UInt8) : (e8s s).all qet = true := q38 s
theorem q3v (s : List UInt8) : (e8s s).map qk7 = s := qbnk s
theorem qrg {s : List UInt8} {u : Nat} (h : s.length < 20) : (qc8 s).set (19 - s.length) (.int .u8 ((48 + u % 10 : Nat) : Int)) = qc8 (UInt8.ofNat (48 + u % 10) :: s) := by
 rw [← qut h]
 congr 2
 rw [UInt8.toNat_ofNat']; omega
theorem qrt {s : List UInt8} {c : UInt8} (h : s.length < 20) : List.take (20 - (19 - s.length)) (List.drop (19 - s.length) (qc8 (c :: s))) = e8s (c :: s) := by
 have h1 : 19 - s.length = 20 - (c :: s).length := by rw [List.length_cons]; omega
 rw [h1]
 exact qyy (s := c :: s) (by simp; omega)
theorem q1g {H : List Ent} {n i off len cap : Nat} : co H (.sl n) (.vw i off len cap) = .vw i off len cap := Eq.trans rfl rfl
attribute [go_sem] q1g
theorem qho (n : Int) : ql Tryz.prog 99 [.int .i64 n] (.str (digI n)) := by
 refine qf c0cy (by simp) (by simp only [go_sem]) rfl fun hw => ?_
 have hn := qk3 hw.1
 have ha : n.natAbs < 18446744073709551616 := by omega
 obtain ⟨hn1, hn2⟩ := qbcl hn
 unfold k0cy
 refine qb2 (qef ?_)
 (refine ev_ ?_; (try with_reducible exact ti_))
 refine qb2 (qef ?_)
 (refine ev_ ?_; (try with_reducible exact ti_))
 refine qcm (S := Unit) (fun _ => True) (fun _ => (⟨[(0, .int .i64 n), (3, .int .u64 n.natAbs)], []⟩, [])) ?_ fun _ _ => ?_
 ·repeat' (first | refine vs_ ?_ | ((first | refine vr_ ?_ | (refine cs_ ?_ ?_ <;> intro hc) | refine cj_ ?_ | simp (disch := omega) only [encs_getN, qb]) <;> (try refine ev_ ?_)) | with_reducible exact ti_)
  ·refine qh () [] trivial rfl (by simp) ?_ ?_ ?_ <;> (try rw [hn1 (by assumption)]) <;> (try refine ev_ ?_) <;> (try with_reducible exact ti_) <;> (try simp (disch := omega) only [qb, and_true, true_and])
  ·refine qh () [] trivial rfl (by simp) ?_ ?_ ?_ <;> (try rw [hn2 (by assumption)]) <;> (try refine ev_ ?_) <;> (try with_reducible exact ti_) <;> (try simp (disch := omega) only [qb, and_true, true_and])
 ·repeat' (first | refine vs_ ?_ | ((first | refine vr_ ?_ | (refine cs_ ?_ ?_ <;> intro hc) | refine cj_ ?_ | simp (disch := omega) only [encs_getN, qb]) <;> (try refine ev_ ?_)) | with_reducible exact ti_)
  refine qq (S := Nat × List UInt8) (fun x => digN x.1 ++ x.2 = digN n.natAbs ∧ x.1 < 18446744073709551616) (fun x => (⟨[(0, .int .i64 n), (3, .int .u64 x.1), (4, .ptr 0 0), (5, .int .i64 ((20 - x.2.length : Nat) : Int))], []⟩, [.blk (qc8 x.2)])) (fun x => x.1) ?_ fun x hx => ?_
  ·refine qh (n.natAbs, []) [0] ⟨by simp, ha⟩ rfl (by simp) ?_ ?_ ?_ <;> (try refine ev_ ?_) <;> (try with_reducible exact ti_) <;> (try simp (disch := omega) only [qb, and_true, true_and])
   all_goals rfl
  ·obtain ⟨u, s⟩ := x
   obtain ⟨h1, h2⟩ := hx
   dsimp only at h1 h2
   have hl : s.length < 20 := by
    have := congrArg List.length h1
    rw [List.length_append] at this
    have := qs0 ha
    have := q1r u
    omega
   have h3 := qlr (Nat.le_of_lt hl)
   have h4 := qlr (s := UInt8.ofNat (48 + u % 10) :: s) (by simp; omega)
   have h5 := qzm (UInt8.ofNat (48 + u % 10) :: s)
   have h6 := q3v (UInt8.ofNat (48 + u % 10) :: s)
   have hm : 20 - (19 - s.length) ≤ maxLen := by unfold maxLen; omega
   have hm2 : 1 + (s.length + 1) ≤ maxLen := by unfold maxLen; omega
   repeat' (first | refine vs_ ?_ | ((first | refine vr_ ?_ | fail) <;> (try simp only [q7h, q7t, qs2, q0u u h2, qbw6 hl, qrg hl, qrt hl, h3, h4, h5, h6, Nat.zero_add, Nat.mul_one, go_sem, ↓reduceIte])) | ((first | (refine cs_ ?_ ?_ <;> intro hc) | refine cj_ ?_ | simp (disch := omega) only [encs_getN, qb]) <;> (try refine ev_ ?_)) | with_reducible exact ti_)
   ·rw [digI, if_pos (by assumption), ← h1, qgj (u := u) (by omega), show u % 10 = u by omega]; rfl
   ·rw [digI, if_neg (by assumption), ← h1, qgj (u := u) (by omega), show u % 10 = u by omega]; rfl
   ·refine qh (u / 10, UInt8.ofNat (48 + u % 10) :: s) [0] ⟨⟨by rw [qpk (by omega)]; exact h1, by dsimp only; omega⟩, by dsimp only; omega⟩ rfl (by simp) ?_ ?_ ?_ <;> (try refine ev_ ?_) <;> (try with_reducible exact ti_) <;> (try simp (disch := omega) only [qb, and_true, true_and])
    all_goals (rw [show 20 - (s.length + 1) = 19 - s.length by omega])
/-! letters -/
theorem q45 {n : Int} (h : (Lit.int .i64 n).wf = true) : (digI n).length ≤ 21 := by
 have hn := qk3 h
 have := qs0 (u := n.natAbs) (by omega)
 rw [digI]
 split
 ·rw [List.length_cons]; omega
 ·omega
theorem q5c {n : Nat} : digI (n : Int) = digN n := by rw [digI, if_neg (by omega)]; rfl
theorem qbtk {n : Int} (h : 0 ≤ n) : n.tmod 26 = ((n.toNat % 26 : Nat) : Int) := by rw [Int.tmod_eq_emod_of_nonneg h]; omega
theorem qbul {n : Int} (h : 0 ≤ n) : n.tdiv 26 = ((n.toNat / 26 : Nat) : Int) := by rw [Int.tdiv_eq_ediv_of_nonneg h]; omega
theorem q5h {u : Nat} : IntKind.u8.wrap (IntKind.i64.wrap (97 + ((u % 26 : Nat) : Int))) = ((97 + u % 26 : Nat) : Int) := by
 rw [qnz (by omega) (by unfold maxLen; omega), qqf (by omega) (by omega)]; omega
theorem qv {z : Int} (h0 : -9223372036854775808 ≤ z) (h1 : z ≤ 9223372036854775807) : IntKind.i64.wrap z = z := by
 simp [IntKind.wrap, IntKind.signed, IntKind.bits]
 omega
theorem qit (n : Int) : ql Tryz.prog 120 [.int .i64 n] (.str (ltrI n)) := by
 refine qf c0cz (by simp) (by simp only [go_sem]) rfl fun hw => ?_
 have hn := qk3 hw.1
 by_cases h0 : n < 0
 ·repeat' (first | refine vs_ ?_ | ((first | refine vr_ ?_ | (refine cs_ ?_ ?_ <;> intro hc) | refine cj_ ?_ | simp (disch := omega) only [encs_getN, qb]) <;> (try refine ev_ ?_)) | with_reducible exact ti_)
  all_goals first | (rw [ltrI, if_pos (by assumption)]; done) | omega
 ·have h1 := qbtk (n := n) (by omega)
  have h2 := qbul (n := n) (by omega)
  have h3 : IntKind.i64.wrap ((n.toNat / 26 : Nat) : Int) = ((n.toNat / 26 : Nat) : Int) := qv (by omega) (by omega)
  have h4 := q5c (n := n.toNat / 26)
  have h5 := qs0 (u := n.toNat / 26) (by omega)
  have h6 : 1 + (digN (n.toNat / 26)).length ≤ maxLen := by unfold maxLen; omega
  repeat' (first | refine vs_ ?_ | ((first | refine vr_ ?_ | fail) <;> (try simp only [h0, h1, h2, h3, h4, q5h, go_sem, ↓reduceIte])) | ((first | (refine cs_ ?_ ?_ <;> intro hc) | refine cj_ ?_ | simp (disch := omega) only [encs_getN, qb] | refine qa (qho _) fun _ => ?_) <;> (try refine ev_ ?_)) | with_reducible exact ti_)
  ·rw [ltrI, if_neg h0, if_pos (by assumption), show n.toNat % 26 = n.toNat by omega]
  ·rw [ltrI, if_neg h0, if_neg (by assumption)]
end Go.Proofs.YtlahgbhhejkgbaaGreat
