/- Texts of this proof, joined. -/
import Derived.Test.YtlahgbhhejkgbaaRaq
import Derived.Test.YtlahgbhhejkgbaaRbf
import Derived.Lib.IndexAny
import Derived.Shelf.Strings.Builder1
import Derived.Shelf.Strings.IndexAnyAll
import Derived.Test.YtlahgbhhejkgbaaProg
import Derived.Test.YtlahgbhhejkgbaaRap

/- the reader of terms: what it reads -/
namespace Go.Proofs.Ytlahgbhhejkgbaa
open Go Go.RowKit Go.V
set_option linter.unusedVariables false
set_option linter.unusedSimpArgs false

def qee (s : List UInt8) : Nat := (s.takeWhile fun b => !([32, 40, 41] : List UInt8).contains b).length
theorem qq1 (s : List UInt8) : qee s ≤ s.length := (List.takeWhile_sublist _).length_le
theorem qso (b : UInt8) (s : List UInt8) : qee (b :: s) = if ([32, 40, 41] : List UInt8).contains b = true then 0 else qee s + 1 := by
 rw [qee, List.takeWhile_cons]
 cases h : ([32, 40, 41] : List UInt8).contains b <;> rfl
theorem qh8 : ∀ s : List UInt8, Lib.indexAny s [32, 40, 41] = if qee s < s.length then (qee s : Int) else -1
 | [] => rfl
 | b :: s => by
   rw [Lib.indexAny, qso, qh8 s, List.length_cons]
   cases h : ([32, 40, 41] : List UInt8).contains b with
   | true => rfl
   | false =>
     simp only [Bool.false_eq_true, if_false]
     by_cases h : qee s < s.length
     ·have h2 : qee s + 1 < s.length + 1 := by omega
      have h3 : (((qee s : Nat) : Int) == -1) = false := beq_eq_false_iff_ne.2 (by omega)
      simp only [if_pos h, if_pos h2, h3, Bool.false_eq_true, if_false]
      push_cast; rfl
     ·have h2 : ¬ qee s + 1 < s.length + 1 := by omega
      simp only [if_neg h, if_neg h2]; rfl
def ascS (s : List UInt8) : Prop := s.length < 4294967281 ∧ ∀ b ∈ s, b.toNat < 128
theorem qc7 {s : List UInt8} (h : ascS s) (n : Nat) : ascS (s.drop n) :=
 ⟨by rw [List.length_drop]; have := h.1; omega, fun b hb => h.2 b (List.mem_of_mem_drop hb)⟩
theorem qxw {P : Program} {f : FuncId} (hok : okF P f = true)
 (h : ∀ (s chars : ByteArray) (w : World), s.size < 4294967281 → chars.size < 4294967281 → (∀ (j : Nat) b, s.data.toList[j]? = some b → b.toNat < 128) → (∀ (j : Nat) b, chars.data.toList[j]? = some b → b.toNat < 128) →
  Calls P f #[.string s, .string chars] w fun e w' => e = .returned (.int .i64 (Lib.indexAny s.data.toList chars.data.toList)) ∧ Below w.heap.size w w')
 {s : List UInt8} (hs : ascS s) : qp P f [.str s, .str [32, 40, 41]] (.int .i64 (Lib.indexAny s [32, 40, 41])) := by
 refine ⟨(qm2 (r := .int .i64 (Lib.indexAny s [32, 40, 41])) hok fun w M G vs hst hv => ?_), by simp [AV.bds, AV.bd], rfl⟩
 obtain ⟨v, r, rfl, ⟨rfl, _⟩, v', r', rfl, ⟨rfl, _⟩, hr⟩ := hv
 simp only [VRs] at hr
 subst hr
 refine (h ⟨s.toArray⟩ ⟨#[32, 40, 41]⟩ w hs.1 (by decide) (fun j b hb => hs.2 b (List.mem_of_getElem? hb)) (fun j b hb => ?_)).mono ?_
 ·have hm : b ∈ ([32, 40, 41] : List UInt8) := List.mem_of_getElem? hb
  simp only [List.mem_cons, List.not_mem_nil, or_false] at hm
  rcases hm with rfl | rfl | rfl <;> decide
 ·rintro e w' ⟨rfl, hb⟩
  have h1 := qq1 s
  have h2 := hs.1
  refine ⟨_, rfl, hb, rfl, ?_⟩
  rw [qh8]
  refine (show ∀ z : Int, -1 ≤ z → z < 4294967281 → (Lit.int .i64 z).wf = true from fun z q1 q2 => ?_) _ (by split <;> omega) (by split <;> omega)
  simp [Lit.wf, IntKind.min, IntKind.max, IntKind.signed, IntKind.bits]
  omega

/-! the number of a letter -/
def numG (s : List UInt8) (n : Int) : Int := if 4611686018427387904 < n then -1 else if ltrI n = s then n else -1
def numW (s : List UInt8) : Int :=
 if s = [] then -1 else if ((s.getD 0 0).toNat : Int) < 97 then -1 else if 122 < ((s.getD 0 0).toNat : Int) then -1
 else if 1 < (s.length : Int) then (if (qd7 (s.drop 1)).2 = 0 then (if 177372539170284150 < (qd7 (s.drop 1)).1 then -1 else numG s (26 * (qd7 (s.drop 1)).1 + (((s.getD 0 0).toNat : Int) - 97))) else -1)
 else numG s (((s.getD 0 0).toNat : Int) - 97)
def ql6 (s : List UInt8) : Ty :=
 if 0 ≤ numW s then .mk [] (numW s) [] else if pfx [63] s = true then (if (qd7 (s.drop 1)).2 = 0 then .mk [] (-1 - (qd7 (s.drop 1)).1) [] else .mk s 0 []) else .mk s 0 []

/-! the reader -/
structure Rd where
 s : List UInt8
 lv : Int
 bad : Bool
def arrS : List UInt8 := [32, 45, 62, 32]
def cutR (k : Nat) (r : Rd) : Rd := ⟨r.s.drop k, r.lv, r.bad⟩
def badR (b : Bool) (r : Rd) : Rd := ⟨r.s, r.lv, r.bad || b⟩
def lvR (n : Int) (r : Rd) : Rd := ⟨r.s, n, r.bad⟩
def endA (p : Ty × Rd) : Ty × Rd := if p.2.bad = true then p else if pfx [41] p.2.s = true then (p.1, cutR 1 p.2) else (p.1, badR true p.2)
def qll (r : Rd) : Ty × Rd := (ql6 (r.s.take (qee r.s)), badR (decide (qee r.s = 0)) (cutR (qee r.s) r))
def qbpb (p : Ty × Rd) : Rd := lvR (p.2.lv - 1) p.2
mutual
def qcs : Nat → Rd → Ty × Rd
 | 0, r => (Y0, r)
 | n + 1, r => if pfx [40] r.s = true then endA (qd1 n (cutR 1 r)) else qll r
def qd1 : Nat → Rd → Ty × Rd
 | 0, r => (Y0, r)
 | n + 1, r => if r.bad = true ∨ 200 < r.lv + 1 then (Y0, badR true r) else qvm n (qj4 n (qcs n (lvR (r.lv + 1) r)).1 (qcs n (lvR (r.lv + 1) r)).2)
def qj4 : Nat → Ty → Rd → Ty × Rd
 | 0, t, r => (t, r)
 | n + 1, t, r => if r.bad = false ∧ pfx arrS r.s = false ∧ pfx [32] r.s = true then qj4 n (.mk t.con t.var (t.args ++ [(qcs n (cutR 1 r)).1])) (qcs n (cutR 1 r)).2 else (t, r)
def qvm : Nat → Ty × Rd → Ty × Rd
 | 0, p => (p.1, lvR (p.2.lv - 1) p.2)
 | n + 1, p => if p.2.bad = false ∧ pfx arrS p.2.s = true then (.mk arrW 0 [p.1, (qd1 n (cutR 4 p.2)).1], qbpb (qd1 n (cutR 4 p.2))) else (p.1, lvR (p.2.lv - 1) p.2)
end
end Go.Proofs.Ytlahgbhhejkgbaa
/-
 The shelf's contracts over this program, laid as plain text by the kit's lay-plain.
-/
namespace Go.Proofs
open Go.Shelf
def Try.lays153_ren : Go.Shelf.Ren := ⟨fun | 153 => 100 | 152 => 114 | 226 => 115 | 227 => 116 | 228 => 117 | 137 => 125 | 119 => 126 | 224 => 127 | 225 => 128 | 217 => 133 | 266 => 135 | n => n, fun | 9 => 9 | 3 => 3 | 4 => 4 | 5 => 5 | 21 => 21 | 117 => 135 | 116 => 134 | 0 => 0 | 46 => 140 | 124 => 145 | n => n, fun | n => n⟩
theorem Try.lays153 : Go.Proofs.Lays.n153 Try.prog Try.lays153_ren := {
 mixed := by kernel_rfl
 f119 := Try.func126.trans (congrArg some (by kernel_rfl))
 f137 := Try.func125.trans (congrArg some (by kernel_rfl))
 f152 := Try.func114.trans (congrArg some (by kernel_rfl))
 f153 := Try.func100.trans (congrArg some (by kernel_rfl))
 f217 := Try.func133.trans (congrArg some (by kernel_rfl))
 f224 := Try.func127.trans (congrArg some (by kernel_rfl))
 f225 := Try.func128.trans (congrArg some (by kernel_rfl))
 f226 := Try.func115.trans (congrArg some (by kernel_rfl))
 f227 := Try.func116.trans (congrArg some (by kernel_rfl))
 f228 := Try.func117.trans (congrArg some (by kernel_rfl))
 f266 := Try.func135.trans (congrArg some (by kernel_rfl))
 t0 := Try.underlying0
 a0 := Try.isAgg0
 z0 := Try.sizeOf0
 v0 := Try.zeroValue0
 t3 := Try.underlying3
 a3 := Try.isAgg3
 z3 := Try.sizeOf3
 v3 := Try.zeroValue3
 t4 := Try.underlying4
 a4 := Try.isAgg4
 z4 := Try.sizeOf4
 v4 := Try.zeroValue4
 t5 := Try.underlying5
 a5 := Try.isAgg5
 z5 := Try.sizeOf5
 v5 := Try.zeroValue5
 t9 := Try.underlying9
 a9 := Try.isAgg9
 z9 := Try.sizeOf9
 v9 := Try.zeroValue9
 t21 := Try.underlying21
 a21 := Try.isAgg21
 z21 := Try.sizeOf21
 v21 := Try.zeroValue21
 t46 := Try.underlying140
 a46 := Try.isAgg140
 z46 := Try.sizeOf140
 v46 := Try.zeroValue140
 t116 := Try.underlying134
 a116 := Try.isAgg134
 z116 := Try.sizeOf134
 t117 := Try.underlying135
 a117 := Try.isAgg135
 z117 := Try.sizeOf135
 v117 := Try.zeroValue135
 t124 := Try.underlying145
 a124 := Try.isAgg145
 z124 := Try.sizeOf145
 v124 := Try.zeroValue145 }
open Go.RowKit Go.Lib in
theorem Try.strings_IndexAny_laid (s chars : ByteArray) (w : World) (hs : s.size < 4294967281) (hcs : chars.size < 4294967281) (has : ∀ (j : Nat) b, s.data.toList[j]? = some b → b.toNat < 128) (hac : ∀ (j : Nat) b, chars.data.toList[j]? = some b → b.toNat < 128) :
 Calls Try.prog 100 #[.string s, .string chars] w fun e w' => e = .returned (.int .i64 (Lib.indexAny s.data.toList chars.data.toList)) ∧ Below w.heap.size w w' := Any.strings_IndexAny_laid Try.lays153 (by kernel_rfl) s chars w hs hcs has hac

end Go.Proofs

/- the reader of terms: numbers of letters, leaves, what is taken -/
set_option maxRecDepth 4000
namespace Go.Proofs.Ytlahgbhhejkgbaa
open Go Go.RowKit Go.V
set_option linter.unusedVariables false
set_option linter.unusedSimpArgs false

theorem qht {s : List UInt8} (hs : ascS s) : qp Try.prog 100 [.str s, .str [32, 40, 41]] (.int .i64 (Lib.indexAny s [32, 40, 41])) :=
 qxw (by kernel_rfl) Try.strings_IndexAny_laid hs
theorem qig : ∀ (l : List UInt8) (k : Int), 0 ≤ k → k ≤ 9223372036854775807 → digW l = true → 0 ≤ (qd6 k l).1 ∧ (qd6 k l).1 ≤ 9223372036854775807
 | [], k, h0, h1, _ => ⟨h0, h1⟩
 | c :: r, k, h0, h1, hd => by
   rw [qd6]
   split
   ·exact ⟨by decide, by decide⟩
   ·rename_i hk
    have hd' : qc4 c.toNat = true ∧ digW r = true := by simpa [digW] using hd
    have hc : 48 ≤ (c.toNat : Int) ∧ (c.toNat : Int) ≤ 57 := by
     have := hd'.1
     simp only [qc4, Bool.and_eq_true, decide_eq_true_eq] at this
     omega
    have h8 : IntKind.u8.wrap ((c.toNat : Int) - 48) = (c.toNat : Int) - 48 := qnw (by omega) (by omega)
    have h9 : digV c = (c.toNat : Int) - 48 := by rw [digV, h8, qt (by omega) (by omega)]
    have h10 : topV c = (9223372036854775807 - ((c.toNat : Int) - 48)) / 10 := by
     have h : IntKind.i64.wrap (9223372036854775807 - ((c.toNat : Int) - 48)) = 9223372036854775807 - ((c.toNat : Int) - 48) := qt (by omega) (by omega)
     rw [topV, h9, h, Int.tdiv_eq_ediv_of_nonneg (by omega), qt (by omega) (by omega)]
    have h11 : nxtV k c = 10 * k + ((c.toNat : Int) - 48) := by
     rw [nxtV, h9, qt (z := 10 * k) (by omega) (by omega), qt (by omega) (by omega)]
    exact qig r _ (by rw [h11]; omega) (by rw [h11]; omega) hd'.2
theorem qjn (l : List UInt8) : 0 ≤ (qd7 l).1 ∧ (qd7 l).1 ≤ 9223372036854775807 := by
 rw [qd7]
 split
 ·exact ⟨by decide, by decide⟩
 split
 ·rename_i h; exact qig l 0 (by decide) (by decide) h
 ·exact ⟨by decide, by decide⟩
theorem qbk7 {c : UInt8} (h : ¬ (c.toNat : Int) < 97) : IntKind.i64.wrap (IntKind.u8.wrap ((c.toNat : Int) - 97)) = (c.toNat : Int) - 97 := by
 have := c.toNat_lt
 rw [qnw (by omega) (by omega), qt (by omega) (by omega)]
theorem qbo8 {b k : Int} (h0 : 97 ≤ b) (h1 : b ≤ 122) (h2 : 0 ≤ k) (h3 : k ≤ 177372539170284150) : IntKind.i64.wrap (b - 97 + IntKind.i64.wrap (26 * k)) = 26 * k + (b - 97) := by
 rw [qt (z := 26 * k) (by omega) (by omega), qt (by omega) (by omega)]; omega
attribute [go_sem] q22
theorem qhn (s : List UInt8) : qp Try.prog 118 [.str s] (.int .i64 (numW s)) := by
 refine qh c0cr (by simp) (by simp only [go_sem]) rfl fun hw => ?_
 have hl : s.length ≤ maxLen := hw.1
 have hr := qjn (s.drop 1)
 by_cases h0 : s = []
 ·subst h0
  repeat' (first | refine vs_ ?_ | ((first | refine vr_ ?_ | (refine cs_ ?_ ?_ <;> intro hc) | refine cj_ ?_ | simp (disch := omega) only [encs_getN, qb]) <;> (try refine ev_ ?_)) | with_reducible exact ti_)
  all_goals first | rfl | (exact absurd rfl (by assumption))
 have hlp := qjp h0
 repeat' (first | refine vs_ ?_ | ((first | refine vr_ ?_ | fail) <;> (try simp only [h0, decide_false, go_sem, ↓reduceIte])) | ((first | simp (disch := omega) only [qbk7] | simp (disch := omega) only [qbo8] | (refine cs_ ?_ ?_ <;> intro hc) | refine cj_ ?_ | simp (disch := omega) only [encs_getN, qb] | refine qa (qgk _) fun _ => ?_ | refine qa (qhl _) fun _ => ?_) <;> (try refine ev_ ?_)) | with_reducible exact ti_)
 all_goals (simp only [numW, numG, *, if_true, if_false, ↓reduceIte, eq_self])
end Go.Proofs.Ytlahgbhhejkgbaa
