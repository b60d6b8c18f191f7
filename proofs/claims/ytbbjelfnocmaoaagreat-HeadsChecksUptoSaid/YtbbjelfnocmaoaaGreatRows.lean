/-
  NARROWER THAN 'FOR EVERY INPUT', by the rows' own cells (each row's printed sentence says how): HeadsChecks: loops · HeadsBy: loops · HeadsAbove: loops.
  DERIVED. THE GIVEN ROWS OF THIS SEAT. 3 by the template 'for every input the law returns true; each argument reads behind the call as it read before'; 0 by the template 'total and deterministic' (their statements: YtbbjelfnocmaoaaGreatTotals.lean).
  GIVEN WITH THE SEED: the statements are not yours to turn. If you find one false, say at which input.
  Laid BY PROGRAM, IN A SANDBOX (cutbox-rows.mjs): the forced cells as the released guide's own fill.sh prints them over the translation 4d31dce5ebae01d9… (all of the seat's roots in one cut). By AI agents, Wed Nov 11 2026. No macro, syntax, notation, axiom, sorry.
-/
import Derived.Test.YtbbjelfnocmaoaaGreatChecked
import GoSem.Claim
import GoSem.ClaimJoined
import GoSem.ClaimMapViews
import Derived.JoinedTies
import Derived.KernelRfl
namespace Go.Proofs.YtbbjelfnocmaoaaGreat
/- THE CELL 'sum', in the pinned program and in every row, IS THE sha256 OF THE DUMP (.gsa) THAT YtbbjelfnocmaoaaGreatProg.lean LOADS. Nothing in Lean hashes anything: it is a label: what it is worth is what the hold of that sum in a sandbox is worth. -/
noncomputable def Tryz.pinned : Pinned := { name := "ytbbjelfnocmaoaagreat", sum := "4d31dce5ebae01d93f5b5098fbf666559ed4b9c868ff89b11ae3ccbce9e674f2", checked := Tryz.checked }
namespace Rows
def none {H : Type} : Left H := { results := [], args := [] }

/-- 'envoylaw23.HeadsChecks': WHATEVER THE INPUT: true; the input reads as it did. -/
def headsChecksSpec : ChangeSpec := { name := "headsChecks", fn := fun _ => fun
  | [d1, d2] => { results := [.lit (.bool true)], args := [d1, d2] }
  | _ => none }
def headsChecksRow : OpenClaim := { program := "ytbbjelfnocmaoaagreat", sum := "4d31dce5ebae01d93f5b5098fbf666559ed4b9c868ff89b11ae3ccbce9e674f2", func := "envoy/envoylaw23.HeadsChecks", spec := "headsChecks", inPlace := ["internal/bytealg.IndexByteString", "internal/bytealg.IndexString", "internal/abi.NoEscape", "slices.overlaps[envoy/api.Pair]", "internal/bytealg.MakeNoZero"], unfollowed := true, recurses := true, named := ["internal/bytealg.MaxLen"], loops := true, apart := false }
def HeadsChecksSaid : Prop := headsChecksRow.holds Tryz.pinned (OpenSpec.ofChange headsChecksSpec)

/-- ITS FALSE NEIGHBOUR: 'it returns false'. Refute it at one input. -/
def headsChecksWrong : ChangeSpec := { name := "headsChecks", fn := fun _ => fun
  | [d1, d2] => { results := [.lit (.bool false)], args := [d1, d2] }
  | _ => none }
def HeadsChecksWrongFalsely : Prop := headsChecksRow.holds Tryz.pinned (OpenSpec.ofChange headsChecksWrong)

/-- 'envoylaw23.HeadsBy': WHATEVER THE INPUT: true; the input reads as it did. -/
def headsBySpec : ChangeSpec := { name := "headsBy", fn := fun _ => fun
  | [d1, d2] => { results := [.lit (.bool true)], args := [d1, d2] }
  | _ => none }
def headsByRow : OpenClaim := { program := "ytbbjelfnocmaoaagreat", sum := "4d31dce5ebae01d93f5b5098fbf666559ed4b9c868ff89b11ae3ccbce9e674f2", func := "envoy/envoylaw23.HeadsBy", spec := "headsBy", inPlace := ["internal/bytealg.IndexByteString", "internal/bytealg.IndexString", "internal/abi.NoEscape", "slices.overlaps[envoy/api.Pair]", "internal/bytealg.MakeNoZero"], unfollowed := true, recurses := true, named := ["internal/bytealg.MaxLen"], loops := true, apart := false }
def HeadsBySaid : Prop := headsByRow.holds Tryz.pinned (OpenSpec.ofChange headsBySpec)

/-- ITS FALSE NEIGHBOUR: 'it returns false'. Refute it at one input. -/
def headsByWrong : ChangeSpec := { name := "headsBy", fn := fun _ => fun
  | [d1, d2] => { results := [.lit (.bool false)], args := [d1, d2] }
  | _ => none }
def HeadsByWrongFalsely : Prop := headsByRow.holds Tryz.pinned (OpenSpec.ofChange headsByWrong)

/-- 'envoylaw23.HeadsAbove': WHATEVER THE INPUT: true; the input reads as it did. -/
def headsAboveSpec : ChangeSpec := { name := "headsAbove", fn := fun _ => fun
  | [d1, d2] => { results := [.lit (.bool true)], args := [d1, d2] }
  | _ => none }
def headsAboveRow : OpenClaim := { program := "ytbbjelfnocmaoaagreat", sum := "4d31dce5ebae01d93f5b5098fbf666559ed4b9c868ff89b11ae3ccbce9e674f2", func := "envoy/envoylaw23.HeadsAbove", spec := "headsAbove", inPlace := ["internal/bytealg.IndexByteString", "internal/bytealg.IndexString", "internal/abi.NoEscape", "slices.overlaps[envoy/api.Pair]", "internal/bytealg.MakeNoZero"], unfollowed := true, recurses := true, named := ["internal/bytealg.MaxLen"], loops := true, apart := false }
def HeadsAboveSaid : Prop := headsAboveRow.holds Tryz.pinned (OpenSpec.ofChange headsAboveSpec)

/-- ITS FALSE NEIGHBOUR: 'it returns false'. Refute it at one input. -/
def headsAboveWrong : ChangeSpec := { name := "headsAbove", fn := fun _ => fun
  | [d1, d2] => { results := [.lit (.bool false)], args := [d1, d2] }
  | _ => none }
def HeadsAboveWrongFalsely : Prop := headsAboveRow.holds Tryz.pinned (OpenSpec.ofChange headsAboveWrong)

/- THE SECOND FORM. 'bulk': how many values and letters a reading holds, each counted each time it is reached (what is shared counts as often as it is met; a slice's spare places count too). A statement '..UptoSaid' is the law's where the arguments, and the package variables that the reading takes, are together of bulk at most 1048576: NARROWER than '..Said'. Prove '..Said' where nothing that the law and all that it calls make is longer than what came in: it says more and counts as full. Else prove '..UptoSaid'. A law counts once. -/
mutual
def uptoBulk {H : Type} : DataW H → Nat
  | .lit (.string bytes) => bytes.length + 1
  | .lit _ => 1
  | .nil => 1
  | .ptr d => uptoBulk d + 1
  | .slice elems spare => uptoBulkAll elems + uptoBulkAll spare + 1
  | .agg parts => uptoBulkAll parts + 1
  | .iface _ d => uptoBulk d + 1
  | .map entries => uptoBulkEntries entries + 1
  | .held _ => 1
def uptoBulkAll {H : Type} : List (DataW H) → Nat
  | [] => 0
  | d :: r => uptoBulk d + uptoBulkAll r
def uptoBulkEntries {H : Type} : List (Lit × DataW H) → Nat
  | [] => 0
  | x :: r => uptoBulkEntry x + uptoBulkEntries r
def uptoBulkEntry {H : Type} : Lit × DataW H → Nat
  | (.string bytes, d) => bytes.length + uptoBulk d + 1
  | (_, d) => uptoBulk d + 1
 end
def uptoSmall : (H : Type) → List (DataW H) → Bool := fun _ ds => decide (uptoBulkAll ds ≤ 1048576)
def OpenSpec.upto (s : _root_.Go.ChangeSpec) : _root_.Go.OpenSpec := { _root_.Go.OpenSpec.ofChange s with cond := some uptoSmall }

/-- 'envoylaw23.HeadsChecks', WHERE WHAT IT READS IS OF BULK AT MOST 1048576: true; the input reads as it did. -/
def headsChecksUptoRow : OpenClaim := { program := "ytbbjelfnocmaoaagreat", sum := "4d31dce5ebae01d93f5b5098fbf666559ed4b9c868ff89b11ae3ccbce9e674f2", func := "envoy/envoylaw23.HeadsChecks", spec := "headsChecks", inPlace := ["internal/bytealg.IndexByteString", "internal/bytealg.IndexString", "internal/abi.NoEscape", "slices.overlaps[envoy/api.Pair]", "internal/bytealg.MakeNoZero"], unfollowed := true, recurses := true, named := ["internal/bytealg.MaxLen"], loops := true, apart := false, narrowed := true }
def HeadsChecksUptoSaid : Prop := headsChecksUptoRow.holds Tryz.pinned (OpenSpec.upto headsChecksSpec)

/-- 'envoylaw23.HeadsBy', WHERE WHAT IT READS IS OF BULK AT MOST 1048576: true; the input reads as it did. -/
def headsByUptoRow : OpenClaim := { program := "ytbbjelfnocmaoaagreat", sum := "4d31dce5ebae01d93f5b5098fbf666559ed4b9c868ff89b11ae3ccbce9e674f2", func := "envoy/envoylaw23.HeadsBy", spec := "headsBy", inPlace := ["internal/bytealg.IndexByteString", "internal/bytealg.IndexString", "internal/abi.NoEscape", "slices.overlaps[envoy/api.Pair]", "internal/bytealg.MakeNoZero"], unfollowed := true, recurses := true, named := ["internal/bytealg.MaxLen"], loops := true, apart := false, narrowed := true }
def HeadsByUptoSaid : Prop := headsByUptoRow.holds Tryz.pinned (OpenSpec.upto headsBySpec)

/-- 'envoylaw23.HeadsAbove', WHERE WHAT IT READS IS OF BULK AT MOST 1048576: true; the input reads as it did. -/
def headsAboveUptoRow : OpenClaim := { program := "ytbbjelfnocmaoaagreat", sum := "4d31dce5ebae01d93f5b5098fbf666559ed4b9c868ff89b11ae3ccbce9e674f2", func := "envoy/envoylaw23.HeadsAbove", spec := "headsAbove", inPlace := ["internal/bytealg.IndexByteString", "internal/bytealg.IndexString", "internal/abi.NoEscape", "slices.overlaps[envoy/api.Pair]", "internal/bytealg.MakeNoZero"], unfollowed := true, recurses := true, named := ["internal/bytealg.MaxLen"], loops := true, apart := false, narrowed := true }
def HeadsAboveUptoSaid : Prop := headsAboveUptoRow.holds Tryz.pinned (OpenSpec.upto headsAboveSpec)

end Rows
end Go.Proofs.YtbbjelfnocmaoaaGreat
