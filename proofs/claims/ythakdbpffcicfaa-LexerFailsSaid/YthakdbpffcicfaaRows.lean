/-
  No cell of these rows narrows 'for every input' (looked for: loops, veiled, ifaces, maps, wideKeys, modest, calm, conditions, laid).
  DERIVED. THE GIVEN ROWS OF THIS SEAT. 5 by the template 'for every input the law returns true; each argument reads behind the call as it read before'; 0 by the template 'total and deterministic' (their statements: YthakdbpffcicfaaTotals.lean).
  GIVEN WITH THE SEED: the statements are not yours to turn. If you find one false, say at which input.
  Laid BY PROGRAM, IN A SANDBOX (cutbox-rows.mjs): the forced cells as the released guide's own fill.sh prints them over the translation 16946051ece7b0e5… (all of the seat's roots in one cut). By AI agents, Wed Nov 11 2026. No macro, syntax, notation, axiom, sorry.
-/
import Derived.Test.YthakdbpffcicfaaChecked
import GoSem.Claim
import GoSem.ClaimJoined
import GoSem.ClaimMapViews
import Derived.JoinedTies
import Derived.KernelRfl
namespace Go.Proofs.Ythakdbpffcicfaa
/- THE CELL 'sum', in the pinned program and in every row, IS THE sha256 OF THE DUMP (.gsa) THAT YthakdbpffcicfaaProg.lean LOADS. Nothing in Lean hashes anything: it is a label: what it is worth is what the hold of that sum in a sandbox is worth. -/
noncomputable def Try.pinned : Pinned := { name := "ythakdbpffcicfaa", sum := "16946051ece7b0e569f4dd1b24c555da66516e89cf8585166306dc73d3cae4c6", checked := Try.checked }
namespace Rows
def none {H : Type} : Left H := { results := [], args := [] }

/-- 'envoylaw04.LexerLexes': WHATEVER THE INPUT: true; the input reads as it did. -/
def lexerLexesSpec : ChangeSpec := { name := "lexerLexes", fn := fun _ => fun
  | [d] => { results := [.lit (.bool true)], args := [d] }
  | _ => none }
def lexerLexesRow : OpenClaim := { program := "ythakdbpffcicfaa", sum := "16946051ece7b0e569f4dd1b24c555da66516e89cf8585166306dc73d3cae4c6", func := "envoy/envoylaw04.LexerLexes", spec := "lexerLexes", inPlace := ["internal/abi.NoEscape", "internal/bytealg.MakeNoZero"], unfollowed := true, recurses := true, apart := false }
def LexerLexesSaid : Prop := lexerLexesRow.holds Try.pinned (OpenSpec.ofChange lexerLexesSpec)

/-- ITS FALSE NEIGHBOUR: 'it returns false'. Refute it at one input. -/
def lexerLexesWrong : ChangeSpec := { name := "lexerLexes", fn := fun _ => fun
  | [d] => { results := [.lit (.bool false)], args := [d] }
  | _ => none }
def LexerLexesWrongFalsely : Prop := lexerLexesRow.holds Try.pinned (OpenSpec.ofChange lexerLexesWrong)

/-- 'envoylaw04.LexerTexts': WHATEVER THE INPUT: true; the input reads as it did. -/
def lexerTextsSpec : ChangeSpec := { name := "lexerTexts", fn := fun _ => fun
  | [d1, d2] => { results := [.lit (.bool true)], args := [d1, d2] }
  | _ => none }
def lexerTextsRow : OpenClaim := { program := "ythakdbpffcicfaa", sum := "16946051ece7b0e569f4dd1b24c555da66516e89cf8585166306dc73d3cae4c6", func := "envoy/envoylaw04.LexerTexts", spec := "lexerTexts", inPlace := ["internal/abi.NoEscape", "internal/bytealg.MakeNoZero"], unfollowed := true, recurses := true, apart := false }
def LexerTextsSaid : Prop := lexerTextsRow.holds Try.pinned (OpenSpec.ofChange lexerTextsSpec)

/-- ITS FALSE NEIGHBOUR: 'it returns false'. Refute it at one input. -/
def lexerTextsWrong : ChangeSpec := { name := "lexerTexts", fn := fun _ => fun
  | [d1, d2] => { results := [.lit (.bool false)], args := [d1, d2] }
  | _ => none }
def LexerTextsWrongFalsely : Prop := lexerTextsRow.holds Try.pinned (OpenSpec.ofChange lexerTextsWrong)

/-- 'envoylaw04.LexerBack': WHATEVER THE INPUT: true; the input reads as it did. -/
def lexerBackSpec : ChangeSpec := { name := "lexerBack", fn := fun _ => fun
  | [d] => { results := [.lit (.bool true)], args := [d] }
  | _ => none }
def lexerBackRow : OpenClaim := { program := "ythakdbpffcicfaa", sum := "16946051ece7b0e569f4dd1b24c555da66516e89cf8585166306dc73d3cae4c6", func := "envoy/envoylaw04.LexerBack", spec := "lexerBack", inPlace := ["internal/abi.NoEscape", "internal/bytealg.MakeNoZero"], unfollowed := true, recurses := true, apart := false }
def LexerBackSaid : Prop := lexerBackRow.holds Try.pinned (OpenSpec.ofChange lexerBackSpec)

/-- ITS FALSE NEIGHBOUR: 'it returns false'. Refute it at one input. -/
def lexerBackWrong : ChangeSpec := { name := "lexerBack", fn := fun _ => fun
  | [d] => { results := [.lit (.bool false)], args := [d] }
  | _ => none }
def LexerBackWrongFalsely : Prop := lexerBackRow.holds Try.pinned (OpenSpec.ofChange lexerBackWrong)

/-- 'envoylaw04.LexerCovers': WHATEVER THE INPUT: true; the input reads as it did. -/
def lexerCoversSpec : ChangeSpec := { name := "lexerCovers", fn := fun _ => fun
  | [d] => { results := [.lit (.bool true)], args := [d] }
  | _ => none }
def lexerCoversRow : OpenClaim := { program := "ythakdbpffcicfaa", sum := "16946051ece7b0e569f4dd1b24c555da66516e89cf8585166306dc73d3cae4c6", func := "envoy/envoylaw04.LexerCovers", spec := "lexerCovers", inPlace := ["internal/abi.NoEscape", "internal/bytealg.MakeNoZero"], unfollowed := true, recurses := true, apart := false }
def LexerCoversSaid : Prop := lexerCoversRow.holds Try.pinned (OpenSpec.ofChange lexerCoversSpec)

/-- ITS FALSE NEIGHBOUR: 'it returns false'. Refute it at one input. -/
def lexerCoversWrong : ChangeSpec := { name := "lexerCovers", fn := fun _ => fun
  | [d] => { results := [.lit (.bool false)], args := [d] }
  | _ => none }
def LexerCoversWrongFalsely : Prop := lexerCoversRow.holds Try.pinned (OpenSpec.ofChange lexerCoversWrong)

/-- 'envoylaw04.LexerFails': WHATEVER THE INPUT: true; the input reads as it did. -/
def lexerFailsSpec : ChangeSpec := { name := "lexerFails", fn := fun _ => fun
  | [d] => { results := [.lit (.bool true)], args := [d] }
  | _ => none }
def lexerFailsRow : OpenClaim := { program := "ythakdbpffcicfaa", sum := "16946051ece7b0e569f4dd1b24c555da66516e89cf8585166306dc73d3cae4c6", func := "envoy/envoylaw04.LexerFails", spec := "lexerFails", inPlace := ["internal/abi.NoEscape", "internal/bytealg.MakeNoZero"], unfollowed := true, recurses := true, apart := false }
def LexerFailsSaid : Prop := lexerFailsRow.holds Try.pinned (OpenSpec.ofChange lexerFailsSpec)

/-- ITS FALSE NEIGHBOUR: 'it returns false'. Refute it at one input. -/
def lexerFailsWrong : ChangeSpec := { name := "lexerFails", fn := fun _ => fun
  | [d] => { results := [.lit (.bool false)], args := [d] }
  | _ => none }
def LexerFailsWrongFalsely : Prop := lexerFailsRow.holds Try.pinned (OpenSpec.ofChange lexerFailsWrong)

/- THE SECOND FORM. 'bulk': how many values and letters a reading holds, each counted each time it is reached (what is shared counts as often as it is met; a slice's spare places count too). A statement '..UptoSaid' is the law's where the arguments, and the package variables that the reading takes, are together of bulk at most 1048576: NARROWER than '..Said'. Prove '..Said' where nothing that the law and all that it calls make is longer than what came in: it says more and counts as full. Else prove '..UptoSaid'. A law counts once. -/
mutual
def uptoBulk {H : Type} : DataW H → Nat
  | .lit (.string bytes) => bytes.length + 1
  | .lit _ => 1
  | .nil => 1
  | .ptr d => uptoBulk d + 1
  | .slice elems spare => uptoBulkAll elems + uptoBulkAll spare + 1
  | .agg parts => uptoBulkAll parts + 1
  | .iface _ d => uptoBulk d + 1
  | .map entries => uptoBulkEntries entries + 1
  | .held _ => 1
def uptoBulkAll {H : Type} : List (DataW H) → Nat
  | [] => 0
  | d :: r => uptoBulk d + uptoBulkAll r
def uptoBulkEntries {H : Type} : List (Lit × DataW H) → Nat
  | [] => 0
  | x :: r => uptoBulkEntry x + uptoBulkEntries r
def uptoBulkEntry {H : Type} : Lit × DataW H → Nat
  | (.string bytes, d) => bytes.length + uptoBulk d + 1
  | (_, d) => uptoBulk d + 1
 end
def uptoSmall : (H : Type) → List (DataW H) → Bool := fun _ ds => decide (uptoBulkAll ds ≤ 1048576)
def OpenSpec.upto (s : _root_.Go.ChangeSpec) : _root_.Go.OpenSpec := { _root_.Go.OpenSpec.ofChange s with cond := some uptoSmall }

/-- 'envoylaw04.LexerLexes', WHERE WHAT IT READS IS OF BULK AT MOST 1048576: true; the input reads as it did. -/
def lexerLexesUptoRow : OpenClaim := { program := "ythakdbpffcicfaa", sum := "16946051ece7b0e569f4dd1b24c555da66516e89cf8585166306dc73d3cae4c6", func := "envoy/envoylaw04.LexerLexes", spec := "lexerLexes", inPlace := ["internal/abi.NoEscape", "internal/bytealg.MakeNoZero"], unfollowed := true, recurses := true, apart := false, narrowed := true }
def LexerLexesUptoSaid : Prop := lexerLexesUptoRow.holds Try.pinned (OpenSpec.upto lexerLexesSpec)

/-- 'envoylaw04.LexerTexts', WHERE WHAT IT READS IS OF BULK AT MOST 1048576: true; the input reads as it did. -/
def lexerTextsUptoRow : OpenClaim := { program := "ythakdbpffcicfaa", sum := "16946051ece7b0e569f4dd1b24c555da66516e89cf8585166306dc73d3cae4c6", func := "envoy/envoylaw04.LexerTexts", spec := "lexerTexts", inPlace := ["internal/abi.NoEscape", "internal/bytealg.MakeNoZero"], unfollowed := true, recurses := true, apart := false, narrowed := true }
def LexerTextsUptoSaid : Prop := lexerTextsUptoRow.holds Try.pinned (OpenSpec.upto lexerTextsSpec)

/-- 'envoylaw04.LexerBack', WHERE WHAT IT READS IS OF BULK AT MOST 1048576: true; the input reads as it did. -/
def lexerBackUptoRow : OpenClaim := { program := "ythakdbpffcicfaa", sum := "16946051ece7b0e569f4dd1b24c555da66516e89cf8585166306dc73d3cae4c6", func := "envoy/envoylaw04.LexerBack", spec := "lexerBack", inPlace := ["internal/abi.NoEscape", "internal/bytealg.MakeNoZero"], unfollowed := true, recurses := true, apart := false, narrowed := true }
def LexerBackUptoSaid : Prop := lexerBackUptoRow.holds Try.pinned (OpenSpec.upto lexerBackSpec)

/-- 'envoylaw04.LexerCovers', WHERE WHAT IT READS IS OF BULK AT MOST 1048576: true; the input reads as it did. -/
def lexerCoversUptoRow : OpenClaim := { program := "ythakdbpffcicfaa", sum := "16946051ece7b0e569f4dd1b24c555da66516e89cf8585166306dc73d3cae4c6", func := "envoy/envoylaw04.LexerCovers", spec := "lexerCovers", inPlace := ["internal/abi.NoEscape", "internal/bytealg.MakeNoZero"], unfollowed := true, recurses := true, apart := false, narrowed := true }
def LexerCoversUptoSaid : Prop := lexerCoversUptoRow.holds Try.pinned (OpenSpec.upto lexerCoversSpec)

/-- 'envoylaw04.LexerFails', WHERE WHAT IT READS IS OF BULK AT MOST 1048576: true; the input reads as it did. -/
def lexerFailsUptoRow : OpenClaim := { program := "ythakdbpffcicfaa", sum := "16946051ece7b0e569f4dd1b24c555da66516e89cf8585166306dc73d3cae4c6", func := "envoy/envoylaw04.LexerFails", spec := "lexerFails", inPlace := ["internal/abi.NoEscape", "internal/bytealg.MakeNoZero"], unfollowed := true, recurses := true, apart := false, narrowed := true }
def LexerFailsUptoSaid : Prop := lexerFailsUptoRow.holds Try.pinned (OpenSpec.upto lexerFailsSpec)

end Rows
end Go.Proofs.Ythakdbpffcicfaa
