/-
  NARROWER THAN 'FOR EVERY INPUT', by the rows' own cells (each row's printed sentence says how): TermsKinds: loops · TermsSame: loops · TermsFuns: loops · TermsTexts: loops · TermsBack: loops · UnifySame: loops.
  DERIVED. THE GIVEN ROWS OF THIS SEAT. 6 by the template 'for every input the law returns true; each argument reads behind the call as it read before'; 0 by the template 'total and deterministic' (their statements: YtlahgbhhejkgbaaTotals.lean).
  GIVEN WITH THE SEED: the statements are not yours to turn. If you find one false, say at which input.
  Laid BY PROGRAM, IN A SANDBOX (cutbox-rows.mjs): the forced cells as the released guide's own fill.sh prints them over the translation 2af1523162a9968d… (all of the seat's roots in one cut). By AI agents, Wed Nov 11 2026. No macro, syntax, notation, axiom, sorry.
-/
import Derived.Test.YtlahgbhhejkgbaaChecked
import GoSem.Claim
import GoSem.ClaimJoined
import GoSem.ClaimMapViews
import Derived.JoinedTies
import Derived.KernelRfl
namespace Go.Proofs.Ytlahgbhhejkgbaa
/- THE CELL 'sum', in the pinned program and in every row, IS THE sha256 OF THE DUMP (.gsa) THAT YtlahgbhhejkgbaaProg.lean LOADS. Nothing in Lean hashes anything: it is a label: what it is worth is what the hold of that sum in a sandbox is worth. -/
noncomputable def Try.pinned : Pinned := { name := "ytlahgbhhejkgbaa", sum := "2af1523162a9968d94bde193a0952c2a20a0af24d7f341fad7c5ff42e00aa69e", checked := Try.checked }
namespace Rows
def none {H : Type} : Left H := { results := [], args := [] }

/-- 'envoylaw16.TermsKinds': WHATEVER THE INPUT: true; the input reads as it did. -/
def termsKindsSpec : ChangeSpec := { name := "termsKinds", fn := fun _ => fun
  | [d1, d2] => { results := [.lit (.bool true)], args := [d1, d2] }
  | _ => none }
def termsKindsRow : OpenClaim := { program := "ytlahgbhhejkgbaa", sum := "2af1523162a9968d94bde193a0952c2a20a0af24d7f341fad7c5ff42e00aa69e", func := "envoy/envoylaw16.TermsKinds", spec := "termsKinds", inPlace := ["internal/bytealg.IndexByteString", "internal/bytealg.IndexString", "internal/abi.NoEscape"], unfollowed := true, recurses := true, named := ["internal/bytealg.MaxLen"], loops := true, apart := false }
def TermsKindsSaid : Prop := termsKindsRow.holds Try.pinned (OpenSpec.ofChange termsKindsSpec)

/-- ITS FALSE NEIGHBOUR: 'it returns false'. Refute it at one input. -/
def termsKindsWrong : ChangeSpec := { name := "termsKinds", fn := fun _ => fun
  | [d1, d2] => { results := [.lit (.bool false)], args := [d1, d2] }
  | _ => none }
def TermsKindsWrongFalsely : Prop := termsKindsRow.holds Try.pinned (OpenSpec.ofChange termsKindsWrong)

/-- 'envoylaw16.TermsSame': WHATEVER THE INPUT: true; the input reads as it did. -/
def termsSameSpec : ChangeSpec := { name := "termsSame", fn := fun _ => fun
  | [d1, d2] => { results := [.lit (.bool true)], args := [d1, d2] }
  | _ => none }
def termsSameRow : OpenClaim := { program := "ytlahgbhhejkgbaa", sum := "2af1523162a9968d94bde193a0952c2a20a0af24d7f341fad7c5ff42e00aa69e", func := "envoy/envoylaw16.TermsSame", spec := "termsSame", inPlace := ["internal/bytealg.IndexByteString", "internal/bytealg.IndexString", "internal/abi.NoEscape"], unfollowed := true, recurses := true, named := ["internal/bytealg.MaxLen"], loops := true, apart := false }
def TermsSameSaid : Prop := termsSameRow.holds Try.pinned (OpenSpec.ofChange termsSameSpec)

/-- ITS FALSE NEIGHBOUR: 'it returns false'. Refute it at one input. -/
def termsSameWrong : ChangeSpec := { name := "termsSame", fn := fun _ => fun
  | [d1, d2] => { results := [.lit (.bool false)], args := [d1, d2] }
  | _ => none }
def TermsSameWrongFalsely : Prop := termsSameRow.holds Try.pinned (OpenSpec.ofChange termsSameWrong)

/-- 'envoylaw16.TermsFuns': WHATEVER THE INPUT: true; the input reads as it did. -/
def termsFunsSpec : ChangeSpec := { name := "termsFuns", fn := fun _ => fun
  | [d1, d2] => { results := [.lit (.bool true)], args := [d1, d2] }
  | _ => none }
def termsFunsRow : OpenClaim := { program := "ytlahgbhhejkgbaa", sum := "2af1523162a9968d94bde193a0952c2a20a0af24d7f341fad7c5ff42e00aa69e", func := "envoy/envoylaw16.TermsFuns", spec := "termsFuns", inPlace := ["internal/bytealg.IndexByteString", "internal/bytealg.IndexString", "internal/abi.NoEscape"], unfollowed := true, recurses := true, named := ["internal/bytealg.MaxLen"], loops := true, apart := false }
def TermsFunsSaid : Prop := termsFunsRow.holds Try.pinned (OpenSpec.ofChange termsFunsSpec)

/-- ITS FALSE NEIGHBOUR: 'it returns false'. Refute it at one input. -/
def termsFunsWrong : ChangeSpec := { name := "termsFuns", fn := fun _ => fun
  | [d1, d2] => { results := [.lit (.bool false)], args := [d1, d2] }
  | _ => none }
def TermsFunsWrongFalsely : Prop := termsFunsRow.holds Try.pinned (OpenSpec.ofChange termsFunsWrong)

/-- 'envoylaw16.TermsTexts': WHATEVER THE INPUT: true; the input reads as it did. -/
def termsTextsSpec : ChangeSpec := { name := "termsTexts", fn := fun _ => fun
  | [d1, d2] => { results := [.lit (.bool true)], args := [d1, d2] }
  | _ => none }
def termsTextsRow : OpenClaim := { program := "ytlahgbhhejkgbaa", sum := "2af1523162a9968d94bde193a0952c2a20a0af24d7f341fad7c5ff42e00aa69e", func := "envoy/envoylaw16.TermsTexts", spec := "termsTexts", inPlace := ["internal/bytealg.IndexByteString", "internal/bytealg.IndexString", "internal/abi.NoEscape"], unfollowed := true, recurses := true, named := ["internal/bytealg.MaxLen"], loops := true, apart := false }
def TermsTextsSaid : Prop := termsTextsRow.holds Try.pinned (OpenSpec.ofChange termsTextsSpec)

/-- ITS FALSE NEIGHBOUR: 'it returns false'. Refute it at one input. -/
def termsTextsWrong : ChangeSpec := { name := "termsTexts", fn := fun _ => fun
  | [d1, d2] => { results := [.lit (.bool false)], args := [d1, d2] }
  | _ => none }
def TermsTextsWrongFalsely : Prop := termsTextsRow.holds Try.pinned (OpenSpec.ofChange termsTextsWrong)

/-- 'envoylaw16.TermsBack': WHATEVER THE INPUT: true; the input reads as it did. -/
def termsBackSpec : ChangeSpec := { name := "termsBack", fn := fun _ => fun
  | [d1, d2, d3] => { results := [.lit (.bool true)], args := [d1, d2, d3] }
  | _ => none }
def termsBackRow : OpenClaim := { program := "ytlahgbhhejkgbaa", sum := "2af1523162a9968d94bde193a0952c2a20a0af24d7f341fad7c5ff42e00aa69e", func := "envoy/envoylaw16.TermsBack", spec := "termsBack", inPlace := ["internal/bytealg.IndexByteString", "internal/bytealg.IndexString", "internal/abi.NoEscape"], unfollowed := true, recurses := true, named := ["internal/bytealg.MaxLen"], loops := true, apart := false }
def TermsBackSaid : Prop := termsBackRow.holds Try.pinned (OpenSpec.ofChange termsBackSpec)

/-- ITS FALSE NEIGHBOUR: 'it returns false'. Refute it at one input. -/
def termsBackWrong : ChangeSpec := { name := "termsBack", fn := fun _ => fun
  | [d1, d2, d3] => { results := [.lit (.bool false)], args := [d1, d2, d3] }
  | _ => none }
def TermsBackWrongFalsely : Prop := termsBackRow.holds Try.pinned (OpenSpec.ofChange termsBackWrong)

/-- 'envoylaw18.UnifySame': WHATEVER THE INPUT: true; the input reads as it did. -/
def unifySameSpec : ChangeSpec := { name := "unifySame", fn := fun _ => fun
  | [d1, d2] => { results := [.lit (.bool true)], args := [d1, d2] }
  | _ => none }
def unifySameRow : OpenClaim := { program := "ytlahgbhhejkgbaa", sum := "2af1523162a9968d94bde193a0952c2a20a0af24d7f341fad7c5ff42e00aa69e", func := "envoy/envoylaw18.UnifySame", spec := "unifySame", inPlace := ["internal/bytealg.IndexByteString", "internal/bytealg.IndexString", "internal/abi.NoEscape", "slices.overlaps[envoy/api.Pair]"], unfollowed := true, recurses := true, named := ["internal/bytealg.MaxLen"], loops := true, apart := false }
def UnifySameSaid : Prop := unifySameRow.holds Try.pinned (OpenSpec.ofChange unifySameSpec)

/-- ITS FALSE NEIGHBOUR: 'it returns false'. Refute it at one input. -/
def unifySameWrong : ChangeSpec := { name := "unifySame", fn := fun _ => fun
  | [d1, d2] => { results := [.lit (.bool false)], args := [d1, d2] }
  | _ => none }
def UnifySameWrongFalsely : Prop := unifySameRow.holds Try.pinned (OpenSpec.ofChange unifySameWrong)

/- THE SECOND FORM. 'bulk': how many values and letters a reading holds, each counted each time it is reached (what is shared counts as often as it is met; a slice's spare places count too). A statement '..UptoSaid' is the law's where the arguments, and the package variables that the reading takes, are together of bulk at most 1048576: NARROWER than '..Said'. Prove '..Said' where nothing that the law and all that it calls make is longer than what came in: it says more and counts as full. Else prove '..UptoSaid'. A law counts once. -/
mutual
def uptoBulk {H : Type} : DataW H → Nat
  | .lit (.string bytes) => bytes.length + 1
  | .lit _ => 1
  | .nil => 1
  | .ptr d => uptoBulk d + 1
  | .slice elems spare => uptoBulkAll elems + uptoBulkAll spare + 1
  | .agg parts => uptoBulkAll parts + 1
  | .iface _ d => uptoBulk d + 1
  | .map entries => uptoBulkEntries entries + 1
  | .held _ => 1
def uptoBulkAll {H : Type} : List (DataW H) → Nat
  | [] => 0
  | d :: r => uptoBulk d + uptoBulkAll r
def uptoBulkEntries {H : Type} : List (Lit × DataW H) → Nat
  | [] => 0
  | x :: r => uptoBulkEntry x + uptoBulkEntries r
def uptoBulkEntry {H : Type} : Lit × DataW H → Nat
  | (.string bytes, d) => bytes.length + uptoBulk d + 1
  | (_, d) => uptoBulk d + 1
 end
def uptoSmall : (H : Type) → List (DataW H) → Bool := fun _ ds => decide (uptoBulkAll ds ≤ 1048576)
def OpenSpec.upto (s : _root_.Go.ChangeSpec) : _root_.Go.OpenSpec := { _root_.Go.OpenSpec.ofChange s with cond := some uptoSmall }

/-- 'envoylaw16.TermsKinds', WHERE WHAT IT READS IS OF BULK AT MOST 1048576: true; the input reads as it did. -/
def termsKindsUptoRow : OpenClaim := { program := "ytlahgbhhejkgbaa", sum := "2af1523162a9968d94bde193a0952c2a20a0af24d7f341fad7c5ff42e00aa69e", func := "envoy/envoylaw16.TermsKinds", spec := "termsKinds", inPlace := ["internal/bytealg.IndexByteString", "internal/bytealg.IndexString", "internal/abi.NoEscape"], unfollowed := true, recurses := true, named := ["internal/bytealg.MaxLen"], loops := true, apart := false, narrowed := true }
def TermsKindsUptoSaid : Prop := termsKindsUptoRow.holds Try.pinned (OpenSpec.upto termsKindsSpec)

/-- 'envoylaw16.TermsSame', WHERE WHAT IT READS IS OF BULK AT MOST 1048576: true; the input reads as it did. -/
def termsSameUptoRow : OpenClaim := { program := "ytlahgbhhejkgbaa", sum := "2af1523162a9968d94bde193a0952c2a20a0af24d7f341fad7c5ff42e00aa69e", func := "envoy/envoylaw16.TermsSame", spec := "termsSame", inPlace := ["internal/bytealg.IndexByteString", "internal/bytealg.IndexString", "internal/abi.NoEscape"], unfollowed := true, recurses := true, named := ["internal/bytealg.MaxLen"], loops := true, apart := false, narrowed := true }
def TermsSameUptoSaid : Prop := termsSameUptoRow.holds Try.pinned (OpenSpec.upto termsSameSpec)

/-- 'envoylaw16.TermsFuns', WHERE WHAT IT READS IS OF BULK AT MOST 1048576: true; the input reads as it did. -/
def termsFunsUptoRow : OpenClaim := { program := "ytlahgbhhejkgbaa", sum := "2af1523162a9968d94bde193a0952c2a20a0af24d7f341fad7c5ff42e00aa69e", func := "envoy/envoylaw16.TermsFuns", spec := "termsFuns", inPlace := ["internal/bytealg.IndexByteString", "internal/bytealg.IndexString", "internal/abi.NoEscape"], unfollowed := true, recurses := true, named := ["internal/bytealg.MaxLen"], loops := true, apart := false, narrowed := true }
def TermsFunsUptoSaid : Prop := termsFunsUptoRow.holds Try.pinned (OpenSpec.upto termsFunsSpec)

/-- 'envoylaw16.TermsTexts', WHERE WHAT IT READS IS OF BULK AT MOST 1048576: true; the input reads as it did. -/
def termsTextsUptoRow : OpenClaim := { program := "ytlahgbhhejkgbaa", sum := "2af1523162a9968d94bde193a0952c2a20a0af24d7f341fad7c5ff42e00aa69e", func := "envoy/envoylaw16.TermsTexts", spec := "termsTexts", inPlace := ["internal/bytealg.IndexByteString", "internal/bytealg.IndexString", "internal/abi.NoEscape"], unfollowed := true, recurses := true, named := ["internal/bytealg.MaxLen"], loops := true, apart := false, narrowed := true }
def TermsTextsUptoSaid : Prop := termsTextsUptoRow.holds Try.pinned (OpenSpec.upto termsTextsSpec)

/-- 'envoylaw16.TermsBack', WHERE WHAT IT READS IS OF BULK AT MOST 1048576: true; the input reads as it did. -/
def termsBackUptoRow : OpenClaim := { program := "ytlahgbhhejkgbaa", sum := "2af1523162a9968d94bde193a0952c2a20a0af24d7f341fad7c5ff42e00aa69e", func := "envoy/envoylaw16.TermsBack", spec := "termsBack", inPlace := ["internal/bytealg.IndexByteString", "internal/bytealg.IndexString", "internal/abi.NoEscape"], unfollowed := true, recurses := true, named := ["internal/bytealg.MaxLen"], loops := true, apart := false, narrowed := true }
def TermsBackUptoSaid : Prop := termsBackUptoRow.holds Try.pinned (OpenSpec.upto termsBackSpec)

/-- 'envoylaw18.UnifySame', WHERE WHAT IT READS IS OF BULK AT MOST 1048576: true; the input reads as it did. -/
def unifySameUptoRow : OpenClaim := { program := "ytlahgbhhejkgbaa", sum := "2af1523162a9968d94bde193a0952c2a20a0af24d7f341fad7c5ff42e00aa69e", func := "envoy/envoylaw18.UnifySame", spec := "unifySame", inPlace := ["internal/bytealg.IndexByteString", "internal/bytealg.IndexString", "internal/abi.NoEscape", "slices.overlaps[envoy/api.Pair]"], unfollowed := true, recurses := true, named := ["internal/bytealg.MaxLen"], loops := true, apart := false, narrowed := true }
def UnifySameUptoSaid : Prop := unifySameUptoRow.holds Try.pinned (OpenSpec.upto unifySameSpec)

end Rows
end Go.Proofs.Ytlahgbhhejkgbaa
