/- Texts of this proof, joined. -/
import Derived.Test.YtlahgbhhejkgbaaGreatLas
import Derived.Test.YtlahgbhhejkgbaaGreatLbi
import Derived.Lib.IndexAny
import Derived.Shelf.Strings.Builder1
import Derived.Shelf.Strings.IndexAnyAll
import Derived.Test.YtlahgbhhejkgbaaGreatProg
import Derived.Test.YtlahgbhhejkgbaaGreatLar

/- the reader of terms: what it reads -/
namespace Go.Proofs.YtlahgbhhejkgbaaGreat
open Go Go.RowKit Go.V
set_option linter.unusedVariables false
set_option linter.unusedSimpArgs false

def qe5 (s : List UInt8) : Nat := (s.takeWhile fun b => !([32, 40, 41] : List UInt8).contains b).length
theorem qr5 (s : List UInt8) : qe5 s ≤ s.length := (List.takeWhile_sublist _).length_le
theorem qt7 (b : UInt8) (s : List UInt8) : qe5 (b :: s) = if ([32, 40, 41] : List UInt8).contains b = true then 0 else qe5 s + 1 := by
 rw [qe5, List.takeWhile_cons]
 cases h : ([32, 40, 41] : List UInt8).contains b <;> rfl
theorem qi4 : ∀ s : List UInt8, Lib.indexAny s [32, 40, 41] = if qe5 s < s.length then (qe5 s : Int) else -1
 | [] => rfl
 | b :: s => by
   rw [Lib.indexAny, qt7, qi4 s, List.length_cons]
   cases h : ([32, 40, 41] : List UInt8).contains b with
   | true => rfl
   | false =>
     simp only [Bool.false_eq_true, if_false]
     by_cases h : qe5 s < s.length
     ·have h2 : qe5 s + 1 < s.length + 1 := by omega
      have h3 : (((qe5 s : Nat) : Int) == -1) = false := beq_eq_false_iff_ne.2 (by omega)
      simp only [if_pos h, if_pos h2, h3, Bool.false_eq_true, if_false]
      push_cast; rfl
     ·have h2 : ¬ qe5 s + 1 < s.length + 1 := by omega
      simp only [if_neg h, if_neg h2]; rfl
def ascS (s : List UInt8) : Prop := s.length < 4294967281 ∧ ∀ b ∈ s, b.toNat < 128
theorem qc6 {s : List UInt8} (h : ascS s) (n : Nat) : ascS (s.drop n) :=
 ⟨by rw [List.length_drop]; have := h.1; omega, fun b hb => h.2 b (List.mem_of_mem_drop hb)⟩
theorem qxt {P : Program} {f : FuncId} (hok : okF P f = true)
 (h : ∀ (s chars : ByteArray) (w : World), s.size < 4294967281 → chars.size < 4294967281 → (∀ (j : Nat) b, s.data.toList[j]? = some b → b.toNat < 128) → (∀ (j : Nat) b, chars.data.toList[j]? = some b → b.toNat < 128) →
  Calls P f #[.string s, .string chars] w fun e w' => e = .returned (.int .i64 (Lib.indexAny s.data.toList chars.data.toList)) ∧ Below w.heap.size w w')
 {s : List UInt8} (hs : ascS s) : qn P f [.str s, .str [32, 40, 41]] (.int .i64 (Lib.indexAny s [32, 40, 41])) := by
 refine ⟨(qol (r := .int .i64 (Lib.indexAny s [32, 40, 41])) hok fun w M G vs hst hv => ?_), by simp [AV.bds, AV.bd], rfl⟩
 obtain ⟨v, r, rfl, ⟨rfl, _⟩, v', r', rfl, ⟨rfl, _⟩, hr⟩ := hv
 simp only [VRs] at hr
 subst hr
 refine (h ⟨s.toArray⟩ ⟨#[32, 40, 41]⟩ w hs.1 (by decide) (fun j b hb => hs.2 b (List.mem_of_getElem? hb)) (fun j b hb => ?_)).mono ?_
 ·have hm : b ∈ ([32, 40, 41] : List UInt8) := List.mem_of_getElem? hb
  simp only [List.mem_cons, List.not_mem_nil, or_false] at hm
  rcases hm with rfl | rfl | rfl <;> decide
 ·rintro e w' ⟨rfl, hb⟩
  have h1 := qr5 s
  have h2 := hs.1
  refine ⟨_, rfl, hb, rfl, ?_⟩
  rw [qi4]
  refine (show ∀ z : Int, -1 ≤ z → z < 4294967281 → (Lit.int .i64 z).wf = true from fun z q1 q2 => ?_) _ (by split <;> omega) (by split <;> omega)
  simp [Lit.wf, IntKind.min, IntKind.max, IntKind.signed, IntKind.bits]
  omega

/-! the number of a letter -/
def numG (s : List UInt8) (n : Int) : Int := if 4611686018427387904 < n then -1 else if ltrI n = s then n else -1
def numW (s : List UInt8) : Int :=
 if s = [] then -1 else if ((s.getD 0 0).toNat : Int) < 97 then -1 else if 122 < ((s.getD 0 0).toNat : Int) then -1
 else if 1 < (s.length : Int) then (if (qea (s.drop 1)).2 = 0 then (if 177372539170284150 < (qea (s.drop 1)).1 then -1 else numG s (26 * (qea (s.drop 1)).1 + (((s.getD 0 0).toNat : Int) - 97))) else -1)
 else numG s (((s.getD 0 0).toNat : Int) - 97)
def qmk (s : List UInt8) : Ty :=
 if 0 ≤ numW s then .mk [] (numW s) [] else if pfx [63] s = true then (if (qea (s.drop 1)).2 = 0 then .mk [] (-1 - (qea (s.drop 1)).1) [] else .mk s 0 []) else .mk s 0 []

/-! the reader -/
structure Rd where
 s : List UInt8
 lv : Int
 bad : Bool
def arrS : List UInt8 := [32, 45, 62, 32]
def cutR (k : Nat) (r : Rd) : Rd := ⟨r.s.drop k, r.lv, r.bad⟩
def badR (b : Bool) (r : Rd) : Rd := ⟨r.s, r.lv, r.bad || b⟩
def lvR (n : Int) (r : Rd) : Rd := ⟨r.s, n, r.bad⟩
def endA (p : Ty × Rd) : Ty × Rd := if p.2.bad = true then p else if pfx [41] p.2.s = true then (p.1, cutR 1 p.2) else (p.1, badR true p.2)
def qmq (r : Rd) : Ty × Rd := (qmk (r.s.take (qe5 r.s)), badR (decide (qe5 r.s = 0)) (cutR (qe5 r.s) r))
def qbs0 (p : Ty × Rd) : Rd := lvR (p.2.lv - 1) p.2
mutual
def qc0 : Nat → Rd → Ty × Rd
 | 0, r => (Y0, r)
 | n + 1, r => if pfx [40] r.s = true then endA (qdx n (cutR 1 r)) else qmq r
def qdx : Nat → Rd → Ty × Rd
 | 0, r => (Y0, r)
 | n + 1, r => if r.bad = true ∨ 200 < r.lv + 1 then (Y0, badR true r) else qw9 n (qk1 n (qc0 n (lvR (r.lv + 1) r)).1 (qc0 n (lvR (r.lv + 1) r)).2)
def qk1 : Nat → Ty → Rd → Ty × Rd
 | 0, t, r => (t, r)
 | n + 1, t, r => if r.bad = false ∧ pfx arrS r.s = false ∧ pfx [32] r.s = true then qk1 n (.mk t.con t.var (t.args ++ [(qc0 n (cutR 1 r)).1])) (qc0 n (cutR 1 r)).2 else (t, r)
def qw9 : Nat → Ty × Rd → Ty × Rd
 | 0, p => (p.1, lvR (p.2.lv - 1) p.2)
 | n + 1, p => if p.2.bad = false ∧ pfx arrS p.2.s = true then (.mk arrW 0 [p.1, (qdx n (cutR 4 p.2)).1], qbs0 (qdx n (cutR 4 p.2))) else (p.1, lvR (p.2.lv - 1) p.2)
end
end Go.Proofs.YtlahgbhhejkgbaaGreat
/-
 The shelf's contracts over this program, laid as plain text by the kit's lay-plain.
-/
namespace Go.Proofs
open Go.Shelf
def Tryz.lays153_ren : Go.Shelf.Ren := ⟨fun | 153 => 102 | 152 => 114 | 226 => 115 | 227 => 116 | 228 => 117 | 137 => 123 | 119 => 124 | 224 => 125 | 225 => 126 | 217 => 128 | 266 => 129 | n => n, fun | 9 => 9 | 3 => 3 | 4 => 4 | 5 => 5 | 21 => 21 | 117 => 140 | 116 => 139 | 0 => 0 | 46 => 113 | 124 => 147 | n => n, fun | n => n⟩
theorem Tryz.lays153 : Go.Proofs.Lays.n153 Tryz.prog Tryz.lays153_ren := {
 mixed := by kernel_rfl
 f119 := Tryz.func124.trans (congrArg some (by kernel_rfl))
 f137 := Tryz.func123.trans (congrArg some (by kernel_rfl))
 f152 := Tryz.func114.trans (congrArg some (by kernel_rfl))
 f153 := Tryz.func102.trans (congrArg some (by kernel_rfl))
 f217 := Tryz.func128.trans (congrArg some (by kernel_rfl))
 f224 := Tryz.func125.trans (congrArg some (by kernel_rfl))
 f225 := Tryz.func126.trans (congrArg some (by kernel_rfl))
 f226 := Tryz.func115.trans (congrArg some (by kernel_rfl))
 f227 := Tryz.func116.trans (congrArg some (by kernel_rfl))
 f228 := Tryz.func117.trans (congrArg some (by kernel_rfl))
 f266 := Tryz.func129.trans (congrArg some (by kernel_rfl))
 t0 := Tryz.underlying0
 a0 := Tryz.isAgg0
 z0 := Tryz.sizeOf0
 v0 := Tryz.zeroValue0
 t3 := Tryz.underlying3
 a3 := Tryz.isAgg3
 z3 := Tryz.sizeOf3
 v3 := Tryz.zeroValue3
 t4 := Tryz.underlying4
 a4 := Tryz.isAgg4
 z4 := Tryz.sizeOf4
 v4 := Tryz.zeroValue4
 t5 := Tryz.underlying5
 a5 := Tryz.isAgg5
 z5 := Tryz.sizeOf5
 v5 := Tryz.zeroValue5
 t9 := Tryz.underlying9
 a9 := Tryz.isAgg9
 z9 := Tryz.sizeOf9
 v9 := Tryz.zeroValue9
 t21 := Tryz.underlying21
 a21 := Tryz.isAgg21
 z21 := Tryz.sizeOf21
 v21 := Tryz.zeroValue21
 t46 := Tryz.underlying113
 a46 := Tryz.isAgg113
 z46 := Tryz.sizeOf113
 v46 := Tryz.zeroValue113
 t116 := Tryz.underlying139
 a116 := Tryz.isAgg139
 z116 := Tryz.sizeOf139
 t117 := Tryz.underlying140
 a117 := Tryz.isAgg140
 z117 := Tryz.sizeOf140
 v117 := Tryz.zeroValue140
 t124 := Tryz.underlying147
 a124 := Tryz.isAgg147
 z124 := Tryz.sizeOf147
 v124 := Tryz.zeroValue147 }
open Go.RowKit Go.Lib in
theorem Tryz.strings_IndexAny_laid (s chars : ByteArray) (w : World) (hs : s.size < 4294967281) (hcs : chars.size < 4294967281) (has : ∀ (j : Nat) b, s.data.toList[j]? = some b → b.toNat < 128) (hac : ∀ (j : Nat) b, chars.data.toList[j]? = some b → b.toNat < 128) :
 Calls Tryz.prog 102 #[.string s, .string chars] w fun e w' => e = .returned (.int .i64 (Lib.indexAny s.data.toList chars.data.toList)) ∧ Below w.heap.size w w' := Any.strings_IndexAny_laid Tryz.lays153 (by kernel_rfl) s chars w hs hcs has hac

end Go.Proofs

/- the reader of terms: numbers of letters, leaves, what is taken -/
set_option maxRecDepth 4000
namespace Go.Proofs.YtlahgbhhejkgbaaGreat
open Go Go.RowKit Go.V
set_option linter.unusedVariables false
set_option linter.unusedSimpArgs false

theorem qif {s : List UInt8} (hs : ascS s) : qn Tryz.prog 102 [.str s, .str [32, 40, 41]] (.int .i64 (Lib.indexAny s [32, 40, 41])) :=
 qxt (by kernel_rfl) Tryz.strings_IndexAny_laid hs
theorem qj0 : ∀ (l : List UInt8) (k : Int), 0 ≤ k → k ≤ 9223372036854775807 → digW l = true → 0 ≤ (qeb k l).1 ∧ (qeb k l).1 ≤ 9223372036854775807
 | [], k, h0, h1, _ => ⟨h0, h1⟩
 | c :: r, k, h0, h1, hd => by
   rw [qeb]
   split
   ·exact ⟨by decide, by decide⟩
   ·rename_i hk
    have hd' : qco c.toNat = true ∧ digW r = true := by simpa [digW] using hd
    have hc : 48 ≤ (c.toNat : Int) ∧ (c.toNat : Int) ≤ 57 := by
     have := hd'.1
     simp only [qco, Bool.and_eq_true, decide_eq_true_eq] at this
     omega
    have h8 : IntKind.u8.wrap ((c.toNat : Int) - 48) = (c.toNat : Int) - 48 := qog (by omega) (by omega)
    have h9 : digV c = (c.toNat : Int) - 48 := by rw [digV, h8, qt (by omega) (by omega)]
    have h10 : topV c = (9223372036854775807 - ((c.toNat : Int) - 48)) / 10 := by
     have h : IntKind.i64.wrap (9223372036854775807 - ((c.toNat : Int) - 48)) = 9223372036854775807 - ((c.toNat : Int) - 48) := qt (by omega) (by omega)
     rw [topV, h9, h, Int.tdiv_eq_ediv_of_nonneg (by omega), qt (by omega) (by omega)]
    have h11 : nxtV k c = 10 * k + ((c.toNat : Int) - 48) := by
     rw [nxtV, h9, qt (z := 10 * k) (by omega) (by omega), qt (by omega) (by omega)]
    exact qj0 r _ (by rw [h11]; omega) (by rw [h11]; omega) hd'.2
theorem qkc (l : List UInt8) : 0 ≤ (qea l).1 ∧ (qea l).1 ≤ 9223372036854775807 := by
 rw [qea]
 split
 ·exact ⟨by decide, by decide⟩
 split
 ·rename_i h; exact qj0 l 0 (by decide) (by decide) h
 ·exact ⟨by decide, by decide⟩
theorem qbqx {c : UInt8} (h : ¬ (c.toNat : Int) < 97) : IntKind.i64.wrap (IntKind.u8.wrap ((c.toNat : Int) - 97)) = (c.toNat : Int) - 97 := by
 have := c.toNat_lt
 rw [qog (by omega) (by omega), qt (by omega) (by omega)]
theorem qbtm {b k : Int} (h0 : 97 ≤ b) (h1 : b ≤ 122) (h2 : 0 ≤ k) (h3 : k ≤ 177372539170284150) : IntKind.i64.wrap (b - 97 + IntKind.i64.wrap (26 * k)) = 26 * k + (b - 97) := by
 rw [qt (z := 26 * k) (by omega) (by omega), qt (by omega) (by omega)]; omega
attribute [go_sem] q3d
theorem qh6 (s : List UInt8) : qn Tryz.prog 118 [.str s] (.int .i64 (numW s)) := by
 refine qf c0df (by simp) (by simp only [go_sem]) rfl fun hw => ?_
 have hl : s.length ≤ maxLen := hw.1
 have hr := qkc (s.drop 1)
 by_cases h0 : s = []
 ·subst h0
  repeat' (first | refine vs_ ?_ | ((first | refine vr_ ?_ | (refine cs_ ?_ ?_ <;> intro hc) | refine cj_ ?_ | simp (disch := omega) only [encs_getN, qb]) <;> (try refine ev_ ?_)) | with_reducible exact ti_)
  all_goals first | rfl | (exact absurd rfl (by assumption))
 have hlp := qhg h0
 repeat' (first | refine vs_ ?_ | ((first | refine vr_ ?_ | fail) <;> (try simp only [h0, decide_false, go_sem, ↓reduceIte])) | ((first | simp (disch := omega) only [qbqx] | simp (disch := omega) only [qbtm] | (refine cs_ ?_ ?_ <;> intro hc) | refine cj_ ?_ | simp (disch := omega) only [encs_getN, qb] | refine qa (qgr _) fun _ => ?_ | refine qa (qid _) fun _ => ?_) <;> (try refine ev_ ?_)) | with_reducible exact ti_)
 all_goals (simp only [numW, numG, *, if_true, if_false, ↓reduceIte, eq_self])
end Go.Proofs.YtlahgbhhejkgbaaGreat
