/- Texts of this proof, joined. -/
import Derived.Test.YtbbjelfnocmaoaaAar
import Derived.Test.YtbbjelfnocmaoaaAbe
import Derived.Lib.IndexAny
import Derived.Shelf.Strings.Builder1
import Derived.Shelf.Strings.Builder2
import Derived.Shelf.Strings.OnBuilder
import Derived.Shelf.Strings.IndexAnyAll
import Derived.Test.YtbbjelfnocmaoaaProg
import Derived.Test.YtbbjelfnocmaoaaAaq

/- the reader of terms: what it reads -/
namespace Go.Proofs.Ytbbjelfnocmaoaa
open Go Go.RowKit Go.V
set_option linter.unusedVariables false
set_option linter.unusedSimpArgs false

def qdr (s : List UInt8) : Nat := (s.takeWhile fun b => !([32, 40, 41] : List UInt8).contains b).length
theorem qpo (s : List UInt8) : qdr s ≤ s.length := (List.takeWhile_sublist _).length_le
theorem qq8 (b : UInt8) (s : List UInt8) : qdr (b :: s) = if ([32, 40, 41] : List UInt8).contains b = true then 0 else qdr s + 1 := by
 rw [qdr, List.takeWhile_cons]
 cases h : ([32, 40, 41] : List UInt8).contains b <;> rfl
theorem qgy : ∀ s : List UInt8, Lib.indexAny s [32, 40, 41] = if qdr s < s.length then (qdr s : Int) else -1
 | [] => rfl
 | b :: s => by
   rw [Lib.indexAny, qq8, qgy s, List.length_cons]
   cases h : ([32, 40, 41] : List UInt8).contains b with
   | true => rfl
   | false =>
     simp only [Bool.false_eq_true, if_false]
     by_cases h : qdr s < s.length
     ·have h2 : qdr s + 1 < s.length + 1 := by omega
      have h3 : (((qdr s : Nat) : Int) == -1) = false := beq_eq_false_iff_ne.2 (by omega)
      simp only [if_pos h, if_pos h2, h3, Bool.false_eq_true, if_false]
      push_cast; rfl
     ·have h2 : ¬ qdr s + 1 < s.length + 1 := by omega
      simp only [if_neg h, if_neg h2]; rfl
def ascS (s : List UInt8) : Prop := s.length < 4294967281 ∧ ∀ b ∈ s, b.toNat < 128
theorem qcj {s : List UInt8} (h : ascS s) (n : Nat) : ascS (s.drop n) :=
 ⟨by rw [List.length_drop]; have := h.1; omega, fun b hb => h.2 b (List.mem_of_mem_drop hb)⟩
theorem qvu {P : Program} {f : FuncId} (hok : okF P f = true)
 (h : ∀ (s chars : ByteArray) (w : World), s.size < 4294967281 → chars.size < 4294967281 → (∀ (j : Nat) b, s.data.toList[j]? = some b → b.toNat < 128) → (∀ (j : Nat) b, chars.data.toList[j]? = some b → b.toNat < 128) →
  Calls P f #[.string s, .string chars] w fun e w' => e = .returned (.int .i64 (Lib.indexAny s.data.toList chars.data.toList)) ∧ Below w.heap.size w w')
 {s : List UInt8} (hs : ascS s) : qk P f [.str s, .str [32, 40, 41]] (.int .i64 (Lib.indexAny s [32, 40, 41])) := by
 refine ⟨(qgf (r := .int .i64 (Lib.indexAny s [32, 40, 41])) hok fun w M G vs hst hv => ?_), by simp [AV.bds, AV.bd], rfl⟩
 obtain ⟨v, r, rfl, ⟨rfl, _⟩, v', r', rfl, ⟨rfl, _⟩, hr⟩ := hv
 simp only [VRs] at hr
 subst hr
 refine (h ⟨s.toArray⟩ ⟨#[32, 40, 41]⟩ w hs.1 (by decide) (fun j b hb => hs.2 b (List.mem_of_getElem? hb)) (fun j b hb => ?_)).mono ?_
 ·have hm : b ∈ ([32, 40, 41] : List UInt8) := List.mem_of_getElem? hb
  simp only [List.mem_cons, List.not_mem_nil, or_false] at hm
  rcases hm with rfl | rfl | rfl <;> decide
 ·rintro e w' ⟨rfl, hb⟩
  have h1 := qpo s
  have h2 := hs.1
  refine ⟨_, rfl, hb, rfl, ?_⟩
  rw [qgy]
  refine (show ∀ z : Int, -1 ≤ z → z < 4294967281 → (Lit.int .i64 z).wf = true from fun z q1 q2 => ?_) _ (by split <;> omega) (by split <;> omega)
  simp [Lit.wf, IntKind.min, IntKind.max, IntKind.signed, IntKind.bits]
  omega

/-! the number of a letter -/
def numG (s : List UInt8) (n : Int) : Int := if 4611686018427387904 < n then -1 else if ltrI n = s then n else -1
def numW (s : List UInt8) : Int :=
 if s = [] then -1 else if ((s.getD 0 0).toNat : Int) < 97 then -1 else if 122 < ((s.getD 0 0).toNat : Int) then -1
 else if 1 < (s.length : Int) then (if (qeh (s.drop 1)).2 = 0 then (if 177372539170284150 < (qeh (s.drop 1)).1 then -1 else numG s (26 * (qeh (s.drop 1)).1 + (((s.getD 0 0).toNat : Int) - 97))) else -1)
 else numG s (((s.getD 0 0).toNat : Int) - 97)
def qkg (s : List UInt8) : Ty :=
 if 0 ≤ numW s then .mk [] (numW s) [] else if pfx [63] s = true then (if (qeh (s.drop 1)).2 = 0 then .mk [] (-1 - (qeh (s.drop 1)).1) [] else .mk s 0 []) else .mk s 0 []

/-! the reader -/
structure Rd where
 s : List UInt8
 lv : Int
 bad : Bool
def arrS : List UInt8 := [32, 45, 62, 32]
def cutR (k : Nat) (r : Rd) : Rd := ⟨r.s.drop k, r.lv, r.bad⟩
def badR (b : Bool) (r : Rd) : Rd := ⟨r.s, r.lv, r.bad || b⟩
def lvR (n : Int) (r : Rd) : Rd := ⟨r.s, n, r.bad⟩
def endA (p : Ty × Rd) : Ty × Rd := if p.2.bad = true then p else if pfx [41] p.2.s = true then (p.1, cutR 1 p.2) else (p.1, badR true p.2)
def qky (r : Rd) : Ty × Rd := (qkg (r.s.take (qdr r.s)), badR (decide (qdr r.s = 0)) (cutR (qdr r.s) r))
def qbh6 (p : Ty × Rd) : Rd := lvR (p.2.lv - 1) p.2
mutual
def qcc : Nat → Rd → Ty × Rd
 | 0, r => (Y0, r)
 | n + 1, r => if pfx [40] r.s = true then endA (qdh n (cutR 1 r)) else qky r
def qdh : Nat → Rd → Ty × Rd
 | 0, r => (Y0, r)
 | n + 1, r => if r.bad = true ∨ 200 < r.lv + 1 then (Y0, badR true r) else quv n (qiy n (qcc n (lvR (r.lv + 1) r)).1 (qcc n (lvR (r.lv + 1) r)).2)
def qiy : Nat → Ty → Rd → Ty × Rd
 | 0, t, r => (t, r)
 | n + 1, t, r => if r.bad = false ∧ pfx arrS r.s = false ∧ pfx [32] r.s = true then qiy n (.mk t.con t.var (t.args ++ [(qcc n (cutR 1 r)).1])) (qcc n (cutR 1 r)).2 else (t, r)
def quv : Nat → Ty × Rd → Ty × Rd
 | 0, p => (p.1, lvR (p.2.lv - 1) p.2)
 | n + 1, p => if p.2.bad = false ∧ pfx arrS p.2.s = true then (.mk arrW 0 [p.1, (qdh n (cutR 4 p.2)).1], qbh6 (qdh n (cutR 4 p.2))) else (p.1, lvR (p.2.lv - 1) p.2)
end
end Go.Proofs.Ytbbjelfnocmaoaa
/-
 The shelf's contracts over this program, laid as plain text by the kit's lay-plain.
-/
namespace Go.Proofs
open Go.Shelf
def Try.lays153_ren : Go.Shelf.Ren := ⟨fun | 153 => 48 | 152 => 62 | 226 => 63 | 227 => 64 | 228 => 65 | 137 => 75 | 119 => 76 | 224 => 77 | 225 => 78 | 217 => 81 | 266 => 82 | n => n, fun | 9 => 9 | 3 => 3 | 4 => 4 | 5 => 5 | 21 => 21 | 117 => 112 | 116 => 111 | 0 => 0 | 46 => 104 | 124 => 123 | n => n, fun | n => n⟩
theorem Try.lays153 : Go.Proofs.Lays.n153 Try.prog Try.lays153_ren := {
 mixed := by kernel_rfl
 f119 := Try.func76.trans (congrArg some (by kernel_rfl))
 f137 := Try.func75.trans (congrArg some (by kernel_rfl))
 f152 := Try.func62.trans (congrArg some (by kernel_rfl))
 f153 := Try.func48.trans (congrArg some (by kernel_rfl))
 f217 := Try.func81.trans (congrArg some (by kernel_rfl))
 f224 := Try.func77.trans (congrArg some (by kernel_rfl))
 f225 := Try.func78.trans (congrArg some (by kernel_rfl))
 f226 := Try.func63.trans (congrArg some (by kernel_rfl))
 f227 := Try.func64.trans (congrArg some (by kernel_rfl))
 f228 := Try.func65.trans (congrArg some (by kernel_rfl))
 f266 := Try.func82.trans (congrArg some (by kernel_rfl))
 t0 := Try.underlying0
 a0 := Try.isAgg0
 z0 := Try.sizeOf0
 v0 := Try.zeroValue0
 t3 := Try.underlying3
 a3 := Try.isAgg3
 z3 := Try.sizeOf3
 v3 := Try.zeroValue3
 t4 := Try.underlying4
 a4 := Try.isAgg4
 z4 := Try.sizeOf4
 v4 := Try.zeroValue4
 t5 := Try.underlying5
 a5 := Try.isAgg5
 z5 := Try.sizeOf5
 v5 := Try.zeroValue5
 t9 := Try.underlying9
 a9 := Try.isAgg9
 z9 := Try.sizeOf9
 v9 := Try.zeroValue9
 t21 := Try.underlying21
 a21 := Try.isAgg21
 z21 := Try.sizeOf21
 v21 := Try.zeroValue21
 t46 := Try.underlying104
 a46 := Try.isAgg104
 z46 := Try.sizeOf104
 v46 := Try.zeroValue104
 t116 := Try.underlying111
 a116 := Try.isAgg111
 z116 := Try.sizeOf111
 t117 := Try.underlying112
 a117 := Try.isAgg112
 z117 := Try.sizeOf112
 v117 := Try.zeroValue112
 t124 := Try.underlying123
 a124 := Try.isAgg123
 z124 := Try.sizeOf123
 v124 := Try.zeroValue123 }
open Go.RowKit Go.Lib in
theorem Try.strings_IndexAny_laid (s chars : ByteArray) (w : World) (hs : s.size < 4294967281) (hcs : chars.size < 4294967281) (has : ∀ (j : Nat) b, s.data.toList[j]? = some b → b.toNat < 128) (hac : ∀ (j : Nat) b, chars.data.toList[j]? = some b → b.toNat < 128) :
 Calls Try.prog 48 #[.string s, .string chars] w fun e w' => e = .returned (.int .i64 (Lib.indexAny s.data.toList chars.data.toList)) ∧ Below w.heap.size w w' := Any.strings_IndexAny_laid Try.lays153 (by kernel_rfl) s chars w hs hcs has hac

end Go.Proofs

/- the reader of terms: numbers of letters, leaves, what is taken -/
set_option maxRecDepth 4000
namespace Go.Proofs.Ytbbjelfnocmaoaa
open Go Go.RowKit Go.V
set_option linter.unusedVariables false
set_option linter.unusedSimpArgs false

theorem qgp {s : List UInt8} (hs : ascS s) : qk Try.prog 48 [.str s, .str [32, 40, 41]] (.int .i64 (Lib.indexAny s [32, 40, 41])) :=
 qvu (by kernel_rfl) Try.strings_IndexAny_laid hs
theorem qhz : ∀ (l : List UInt8) (k : Int), 0 ≤ k → k ≤ 9223372036854775807 → digW l = true → 0 ≤ (qe2 k l).1 ∧ (qe2 k l).1 ≤ 9223372036854775807
 | [], k, h0, h1, _ => ⟨h0, h1⟩
 | c :: r, k, h0, h1, hd => by
   rw [qe2]
   split
   ·exact ⟨by decide, by decide⟩
   ·rename_i hk
    have hd' : qdd c.toNat = true ∧ digW r = true := by simpa [digW] using hd
    have hc : 48 ≤ (c.toNat : Int) ∧ (c.toNat : Int) ≤ 57 := by
     have := hd'.1
     simp only [qdd, Bool.and_eq_true, decide_eq_true_eq] at this
     omega
    have h8 : IntKind.u8.wrap ((c.toNat : Int) - 48) = (c.toNat : Int) - 48 := qpk (by omega) (by omega)
    have h9 : digV c = (c.toNat : Int) - 48 := by rw [digV, h8, qq (by omega) (by omega)]
    have h10 : topV c = (9223372036854775807 - ((c.toNat : Int) - 48)) / 10 := by
     have h : IntKind.i64.wrap (9223372036854775807 - ((c.toNat : Int) - 48)) = 9223372036854775807 - ((c.toNat : Int) - 48) := qq (by omega) (by omega)
     rw [topV, h9, h, Int.tdiv_eq_ediv_of_nonneg (by omega), qq (by omega) (by omega)]
    have h11 : nxtV k c = 10 * k + ((c.toNat : Int) - 48) := by
     rw [nxtV, h9, qq (z := 10 * k) (by omega) (by omega), qq (by omega) (by omega)]
    exact qhz r _ (by rw [h11]; omega) (by rw [h11]; omega) hd'.2
theorem qii (l : List UInt8) : 0 ≤ (qeh l).1 ∧ (qeh l).1 ≤ 9223372036854775807 := by
 rw [qeh]
 split
 ·exact ⟨by decide, by decide⟩
 split
 ·rename_i h; exact qhz l 0 (by decide) (by decide) h
 ·exact ⟨by decide, by decide⟩
theorem qbab {c : UInt8} (h : ¬ (c.toNat : Int) < 97) : IntKind.i64.wrap (IntKind.u8.wrap ((c.toNat : Int) - 97)) = (c.toNat : Int) - 97 := by
 have := c.toNat_lt
 rw [qpk (by omega) (by omega), qq (by omega) (by omega)]
theorem qbhn {b k : Int} (h0 : 97 ≤ b) (h1 : b ≤ 122) (h2 : 0 ≤ k) (h3 : k ≤ 177372539170284150) : IntKind.i64.wrap (b - 97 + IntKind.i64.wrap (26 * k)) = 26 * k + (b - 97) := by
 rw [qq (z := 26 * k) (by omega) (by omega), qq (by omega) (by omega)]; omega
attribute [go_sem] q40
theorem qgc (s : List UInt8) : qk Try.prog 66 [.str s] (.int .i64 (numW s)) := by
 refine qf c0cd (by simp) (by simp only [go_sem]) rfl fun hw => ?_
 have hl : s.length ≤ maxLen := hw.1
 have hr := qii (s.drop 1)
 by_cases h0 : s = []
 ·subst h0
  repeat' (first | refine vs_ ?_ | ((first | refine vr_ ?_ | (refine cs_ ?_ ?_ <;> intro hc) | refine cj_ ?_ | simp (disch := omega) only [encs_getN, qb]) <;> (try refine ev_ ?_)) | with_reducible exact ti_)
  all_goals first | rfl | (exact absurd rfl (by assumption))
 have hlp := qg8 h0
 repeat' (first | refine vs_ ?_ | ((first | refine vr_ ?_ | fail) <;> (try simp only [h0, decide_false, go_sem, ↓reduceIte])) | ((first | simp (disch := omega) only [qbab] | simp (disch := omega) only [qbhn] | (refine cs_ ?_ ?_ <;> intro hc) | refine cj_ ?_ | simp (disch := omega) only [encs_getN, qb] | refine qa (qe0 _) fun _ => ?_ | refine qa (qgg _) fun _ => ?_) <;> (try refine ev_ ?_)) | with_reducible exact ti_)
 all_goals (simp only [numW, numG, *, if_true, if_false, ↓reduceIte, eq_self])
end Go.Proofs.Ytbbjelfnocmaoaa
