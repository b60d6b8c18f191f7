/- Texts of this proof, joined. -/
import Derived.Shelf.Strings.Builder1
import Derived.Shelf.Strings.IndexAnyAll
import Derived.Test.YtlahgbhhejkgbaaProg
import Derived.Test.YtlahgbhhejkgbaaKas
import Derived.Test.YtlahgbhhejkgbaaKat
import Derived.Test.YtlahgbhhejkgbaaKap
set_option linter.unusedVariables false
set_option linter.unusedSimpArgs false
/-
 The shelf's contracts over this program, laid as plain text by the kit's lay-plain.
-/
namespace Go.Proofs
open Go.Shelf
def Try.lays153_ren:Go.Shelf.Ren:=⟨fun | 153=>100 | 152=>114 | 226=>115 | 227=>116 | 228=>117 | 137=>125 | 119=>126 | 224=>127 | 225=>128 | 217=>133 | 266=>135 | n=>n,fun | 9=>9 | 3=>3 | 4=>4 | 5=>5 | 21=>21 | 117=>135 | 116=>134 | 0=>0 | 46=>140 | 124=>145 | n=>n,fun | n=>n⟩
theorem Try.lays153:Go.Proofs.Lays.n153 Try.prog Try.lays153_ren:={
 mixed:=by kernel_rfl
 f119:=Try.func126.trans (congrArg some (by kernel_rfl))
 f137:=Try.func125.trans (congrArg some (by kernel_rfl))
 f152:=Try.func114.trans (congrArg some (by kernel_rfl))
 f153:=Try.func100.trans (congrArg some (by kernel_rfl))
 f217:=Try.func133.trans (congrArg some (by kernel_rfl))
 f224:=Try.func127.trans (congrArg some (by kernel_rfl))
 f225:=Try.func128.trans (congrArg some (by kernel_rfl))
 f226:=Try.func115.trans (congrArg some (by kernel_rfl))
 f227:=Try.func116.trans (congrArg some (by kernel_rfl))
 f228:=Try.func117.trans (congrArg some (by kernel_rfl))
 f266:=Try.func135.trans (congrArg some (by kernel_rfl))
 t0:=Try.underlying0
 a0:=Try.isAgg0
 z0:=Try.sizeOf0
 v0:=Try.zeroValue0
 t3:=Try.underlying3
 a3:=Try.isAgg3
 z3:=Try.sizeOf3
 v3:=Try.zeroValue3
 t4:=Try.underlying4
 a4:=Try.isAgg4
 z4:=Try.sizeOf4
 v4:=Try.zeroValue4
 t5:=Try.underlying5
 a5:=Try.isAgg5
 z5:=Try.sizeOf5
 v5:=Try.zeroValue5
 t9:=Try.underlying9
 a9:=Try.isAgg9
 z9:=Try.sizeOf9
 v9:=Try.zeroValue9
 t21:=Try.underlying21
 a21:=Try.isAgg21
 z21:=Try.sizeOf21
 v21:=Try.zeroValue21
 t46:=Try.underlying140
 a46:=Try.isAgg140
 z46:=Try.sizeOf140
 v46:=Try.zeroValue140
 t116:=Try.underlying134
 a116:=Try.isAgg134
 z116:=Try.sizeOf134
 t117:=Try.underlying135
 a117:=Try.isAgg135
 z117:=Try.sizeOf135
 v117:=Try.zeroValue135
 t124:=Try.underlying145
 a124:=Try.isAgg145
 z124:=Try.sizeOf145
 v124:=Try.zeroValue145 }
end Go.Proofs

/- the reader of terms: numbers of letters, leaves, what is taken -/
set_option maxRecDepth 4000
namespace Go.Proofs.Ytlahgbhhejkgbaa
open Go Go.RowKit Go.V

theorem qgo {s:List UInt8} (hs:ascS s):ql Try.prog 100 [.str s,.str [32,40,41]] (.int .i64 (Lib.indexAny s [32,40,41])) :=
 qrh (by kernel_rfl) (fun s chars w h2 h3 h4=>qql Try.lays153 (by kernel_rfl) s chars w h2 h3 h4) hs
theorem qhr:∀ (l:List UInt8) (k:Int),0≤k->k≤9223372036854775807->digW l = true->0≤(qb5 k l).1∧(qb5 k l).1≤9223372036854775807
 | [],k,h0,h1,_=>⟨h0,h1⟩
 | c :: r, k, h0, h1, hd => by
   rw [qb5]
   split
   ·exact ⟨by decide,by decide⟩
   ·rename_i hk
    have hd':qb9 c.toNat = true∧digW r = true:=by simpa [digW] using hd
    have hc:48≤(c.toNat:Int)∧(c.toNat:Int)≤57:=by
     have:=hd'.1
     simp only [qb9,Bool.and_eq_true,decide_eq_true_eq] at this
     omega
    have h8:IntKind.u8.wrap ((c.toNat:Int) - 48) = (c.toNat:Int) - 48:=qjd (by omega) (by omega)
    have h9:digV c = (c.toNat:Int) - 48:=by rw [digV,h8,qv (by omega) (by omega)]
    have h10:topV c = (9223372036854775807 - ((c.toNat:Int) - 48)) / 10:=by
     have h:IntKind.i64.wrap (9223372036854775807 - ((c.toNat:Int) - 48)) = 9223372036854775807 - ((c.toNat:Int) - 48):=qv (by omega) (by omega)
     rw [topV,h9,h,Int.tdiv_eq_ediv_of_nonneg (by omega),qv (by omega) (by omega)]
    have h11:nxtV k c = 10 * k + ((c.toNat:Int) - 48):=by
     rw [nxtV,h9,qv (z:=10 * k) (by omega) (by omega),qv (by omega) (by omega)]
    exact qhr r _ (by rw [h11];omega) (by rw [h11];omega) hd'.2
theorem qe9 (l:List UInt8):0≤(qdh l).1∧(qdh l).1≤9223372036854775807:=by
 rw [qdh]
 split
 ·exact ⟨by decide,by decide⟩
 split
 ·rename_i h;exact qhr l 0 (by decide) (by decide) h
 ·exact ⟨by decide,by decide⟩
theorem q6n {c:UInt8} (h:¬ (c.toNat:Int) < 97):IntKind.i64.wrap (IntKind.u8.wrap ((c.toNat:Int) - 97)) = (c.toNat:Int) - 97:=by
 have:=c.toNat_lt
 rw [qjd (by omega) (by omega),qv (by omega) (by omega)]
theorem qbdx {b k:Int} (h0:97≤b) (h1:b≤122) (h2:0≤k) (h3:k≤177372539170284150):IntKind.i64.wrap (b - 97 + IntKind.i64.wrap (26 * k)) = 26 * k + (b - 97):=by
 rw [qv (z:=26 * k) (by omega) (by omega),qv (by omega) (by omega)];omega
attribute [go_sem] qxm
theorem qgj (s:List UInt8):ql Try.prog 118 [.str s] (.int .i64 (numW s)):=by
 refine qg c0i (by simp) (by simp only [go_sem]) rfl fun hw=>?_
 have hl:s.length≤maxLen:=hw.1
 have hr:=qe9 (s.drop 1)
 by_cases h0:s = []
 ·subst h0
  repeat' (first | refine vs_ ?_ | ((first | refine vr_ ?_ | (refine cs_ ?_ ?_<;>intro hc) | refine cj_ ?_ | simp (disch:=omega) only [encs_getN,qd])<;>(try refine ev_ ?_)) | with_reducible exact ti_)
  all_goals first | rfl | (exact absurd rfl (by assumption))
 have hlp:=qhl h0
 repeat' (first | refine vs_ ?_ | ((first | refine vr_ ?_ | fail)<;>(try simp only [h0,decide_false,go_sem,↓reduceIte])) | ((first | simp (disch:=omega) only [q6n] | simp (disch:=omega) only [qbdx] | (refine cs_ ?_ ?_<;>intro hc) | refine cj_ ?_ | simp (disch:=omega) only [encs_getN,qd] | refine qa (qfj _) fun _=>?_ | refine qa (qgh _) fun _=>?_)<;>(try refine ev_ ?_)) | with_reducible exact ti_)
 all_goals (simp only [numW,numG, *,if_true,if_false,↓reduceIte,eq_self])
end Go.Proofs.Ytlahgbhhejkgbaa
