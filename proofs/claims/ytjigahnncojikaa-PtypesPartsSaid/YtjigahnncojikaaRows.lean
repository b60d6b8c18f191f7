/-
  No cell of these rows narrows 'for every input' (looked for: loops, veiled, ifaces, maps, wideKeys, modest, calm, conditions, laid).
  DERIVED. THE GIVEN ROWS OF THIS SEAT. 5 by the template 'for every input the law returns true; each argument reads behind the call as it read before'; 0 by the template 'total and deterministic' (their statements: YtjigahnncojikaaTotals.lean).
  GIVEN WITH THE SEED: the statements are not yours to turn. If you find one false, say at which input.
  Laid BY PROGRAM, IN A SANDBOX (cutbox-rows.mjs): the forced cells as the released guide's own fill.sh prints them over the translation ccce8c2ed8c1f74a… (all of the seat's roots in one cut). By AI agents, Wed Nov 11 2026. No macro, syntax, notation, axiom, sorry.
-/
import Derived.Test.YtjigahnncojikaaChecked
import GoSem.Claim
import GoSem.ClaimJoined
import GoSem.ClaimMapViews
import Derived.JoinedTies
import Derived.KernelRfl
namespace Go.Proofs.Ytjigahnncojikaa
/- THE CELL 'sum', in the pinned program and in every row, IS THE sha256 OF THE DUMP (.gsa) THAT YtjigahnncojikaaProg.lean LOADS. Nothing in Lean hashes anything: it is a label: what it is worth is what the hold of that sum in a sandbox is worth. -/
noncomputable def Try.pinned : Pinned := { name := "ytjigahnncojikaa", sum := "ccce8c2ed8c1f74ac4edd80662aefad0b2b1497cb19c597f13a72f10b92331a3", checked := Try.checked }
namespace Rows
def none {H : Type} : Left H := { results := [], args := [] }

/-- 'envoylaw07.PtypesTypes': WHATEVER THE INPUT: true; the input reads as it did. -/
def ptypesTypesSpec : ChangeSpec := { name := "ptypesTypes", fn := fun _ => fun
  | [d] => { results := [.lit (.bool true)], args := [d] }
  | _ => none }
def ptypesTypesRow : OpenClaim := { program := "ytjigahnncojikaa", sum := "ccce8c2ed8c1f74ac4edd80662aefad0b2b1497cb19c597f13a72f10b92331a3", func := "envoy/envoylaw07.PtypesTypes", spec := "ptypesTypes", unfollowed := true, recurses := true, apart := false }
def PtypesTypesSaid : Prop := ptypesTypesRow.holds Try.pinned (OpenSpec.ofChange ptypesTypesSpec)

/-- ITS FALSE NEIGHBOUR: 'it returns false'. Refute it at one input. -/
def ptypesTypesWrong : ChangeSpec := { name := "ptypesTypes", fn := fun _ => fun
  | [d] => { results := [.lit (.bool false)], args := [d] }
  | _ => none }
def PtypesTypesWrongFalsely : Prop := ptypesTypesRow.holds Try.pinned (OpenSpec.ofChange ptypesTypesWrong)

/-- 'envoylaw07.PtypesQuals': WHATEVER THE INPUT: true; the input reads as it did. -/
def ptypesQualsSpec : ChangeSpec := { name := "ptypesQuals", fn := fun _ => fun
  | [d] => { results := [.lit (.bool true)], args := [d] }
  | _ => none }
def ptypesQualsRow : OpenClaim := { program := "ytjigahnncojikaa", sum := "ccce8c2ed8c1f74ac4edd80662aefad0b2b1497cb19c597f13a72f10b92331a3", func := "envoy/envoylaw07.PtypesQuals", spec := "ptypesQuals", unfollowed := true, recurses := true, apart := false }
def PtypesQualsSaid : Prop := ptypesQualsRow.holds Try.pinned (OpenSpec.ofChange ptypesQualsSpec)

/-- ITS FALSE NEIGHBOUR: 'it returns false'. Refute it at one input. -/
def ptypesQualsWrong : ChangeSpec := { name := "ptypesQuals", fn := fun _ => fun
  | [d] => { results := [.lit (.bool false)], args := [d] }
  | _ => none }
def PtypesQualsWrongFalsely : Prop := ptypesQualsRow.holds Try.pinned (OpenSpec.ofChange ptypesQualsWrong)

/-- 'envoylaw07.PtypesParts': WHATEVER THE INPUT: true; the input reads as it did. -/
def ptypesPartsSpec : ChangeSpec := { name := "ptypesParts", fn := fun _ => fun
  | [d1, d2] => { results := [.lit (.bool true)], args := [d1, d2] }
  | _ => none }
def ptypesPartsRow : OpenClaim := { program := "ytjigahnncojikaa", sum := "ccce8c2ed8c1f74ac4edd80662aefad0b2b1497cb19c597f13a72f10b92331a3", func := "envoy/envoylaw07.PtypesParts", spec := "ptypesParts", unfollowed := true, recurses := true, apart := false }
def PtypesPartsSaid : Prop := ptypesPartsRow.holds Try.pinned (OpenSpec.ofChange ptypesPartsSpec)

/-- ITS FALSE NEIGHBOUR: 'it returns false'. Refute it at one input. -/
def ptypesPartsWrong : ChangeSpec := { name := "ptypesParts", fn := fun _ => fun
  | [d1, d2] => { results := [.lit (.bool false)], args := [d1, d2] }
  | _ => none }
def PtypesPartsWrongFalsely : Prop := ptypesPartsRow.holds Try.pinned (OpenSpec.ofChange ptypesPartsWrong)

/-- 'envoylaw07.PtypesFails': WHATEVER THE INPUT: true; the input reads as it did. -/
def ptypesFailsSpec : ChangeSpec := { name := "ptypesFails", fn := fun _ => fun
  | [d] => { results := [.lit (.bool true)], args := [d] }
  | _ => none }
def ptypesFailsRow : OpenClaim := { program := "ytjigahnncojikaa", sum := "ccce8c2ed8c1f74ac4edd80662aefad0b2b1497cb19c597f13a72f10b92331a3", func := "envoy/envoylaw07.PtypesFails", spec := "ptypesFails", unfollowed := true, recurses := true, apart := false }
def PtypesFailsSaid : Prop := ptypesFailsRow.holds Try.pinned (OpenSpec.ofChange ptypesFailsSpec)

/-- ITS FALSE NEIGHBOUR: 'it returns false'. Refute it at one input. -/
def ptypesFailsWrong : ChangeSpec := { name := "ptypesFails", fn := fun _ => fun
  | [d] => { results := [.lit (.bool false)], args := [d] }
  | _ => none }
def PtypesFailsWrongFalsely : Prop := ptypesFailsRow.holds Try.pinned (OpenSpec.ofChange ptypesFailsWrong)

/-- 'envoylaw07.PtypesLegal': WHATEVER THE INPUT: true; the input reads as it did. -/
def ptypesLegalSpec : ChangeSpec := { name := "ptypesLegal", fn := fun _ => fun
  | [d] => { results := [.lit (.bool true)], args := [d] }
  | _ => none }
def ptypesLegalRow : OpenClaim := { program := "ytjigahnncojikaa", sum := "ccce8c2ed8c1f74ac4edd80662aefad0b2b1497cb19c597f13a72f10b92331a3", func := "envoy/envoylaw07.PtypesLegal", spec := "ptypesLegal", unfollowed := true, recurses := true, apart := false }
def PtypesLegalSaid : Prop := ptypesLegalRow.holds Try.pinned (OpenSpec.ofChange ptypesLegalSpec)

/-- ITS FALSE NEIGHBOUR: 'it returns false'. Refute it at one input. -/
def ptypesLegalWrong : ChangeSpec := { name := "ptypesLegal", fn := fun _ => fun
  | [d] => { results := [.lit (.bool false)], args := [d] }
  | _ => none }
def PtypesLegalWrongFalsely : Prop := ptypesLegalRow.holds Try.pinned (OpenSpec.ofChange ptypesLegalWrong)

/- THE SECOND FORM. 'bulk': how many values and letters a reading holds, each counted each time it is reached (what is shared counts as often as it is met; a slice's spare places count too). A statement '..UptoSaid' is the law's where the arguments, and the package variables that the reading takes, are together of bulk at most 1048576: NARROWER than '..Said'. Prove '..Said' where nothing that the law and all that it calls make is longer than what came in: it says more and counts as full. Else prove '..UptoSaid'. A law counts once. -/
mutual
def uptoBulk {H : Type} : DataW H → Nat
  | .lit (.string bytes) => bytes.length + 1
  | .lit _ => 1
  | .nil => 1
  | .ptr d => uptoBulk d + 1
  | .slice elems spare => uptoBulkAll elems + uptoBulkAll spare + 1
  | .agg parts => uptoBulkAll parts + 1
  | .iface _ d => uptoBulk d + 1
  | .map entries => uptoBulkEntries entries + 1
  | .held _ => 1
def uptoBulkAll {H : Type} : List (DataW H) → Nat
  | [] => 0
  | d :: r => uptoBulk d + uptoBulkAll r
def uptoBulkEntries {H : Type} : List (Lit × DataW H) → Nat
  | [] => 0
  | x :: r => uptoBulkEntry x + uptoBulkEntries r
def uptoBulkEntry {H : Type} : Lit × DataW H → Nat
  | (.string bytes, d) => bytes.length + uptoBulk d + 1
  | (_, d) => uptoBulk d + 1
 end
def uptoSmall : (H : Type) → List (DataW H) → Bool := fun _ ds => decide (uptoBulkAll ds ≤ 1048576)
def OpenSpec.upto (s : _root_.Go.ChangeSpec) : _root_.Go.OpenSpec := { _root_.Go.OpenSpec.ofChange s with cond := some uptoSmall }

/-- 'envoylaw07.PtypesTypes', WHERE WHAT IT READS IS OF BULK AT MOST 1048576: true; the input reads as it did. -/
def ptypesTypesUptoRow : OpenClaim := { program := "ytjigahnncojikaa", sum := "ccce8c2ed8c1f74ac4edd80662aefad0b2b1497cb19c597f13a72f10b92331a3", func := "envoy/envoylaw07.PtypesTypes", spec := "ptypesTypes", unfollowed := true, recurses := true, apart := false, narrowed := true }
def PtypesTypesUptoSaid : Prop := ptypesTypesUptoRow.holds Try.pinned (OpenSpec.upto ptypesTypesSpec)

/-- 'envoylaw07.PtypesQuals', WHERE WHAT IT READS IS OF BULK AT MOST 1048576: true; the input reads as it did. -/
def ptypesQualsUptoRow : OpenClaim := { program := "ytjigahnncojikaa", sum := "ccce8c2ed8c1f74ac4edd80662aefad0b2b1497cb19c597f13a72f10b92331a3", func := "envoy/envoylaw07.PtypesQuals", spec := "ptypesQuals", unfollowed := true, recurses := true, apart := false, narrowed := true }
def PtypesQualsUptoSaid : Prop := ptypesQualsUptoRow.holds Try.pinned (OpenSpec.upto ptypesQualsSpec)

/-- 'envoylaw07.PtypesParts', WHERE WHAT IT READS IS OF BULK AT MOST 1048576: true; the input reads as it did. -/
def ptypesPartsUptoRow : OpenClaim := { program := "ytjigahnncojikaa", sum := "ccce8c2ed8c1f74ac4edd80662aefad0b2b1497cb19c597f13a72f10b92331a3", func := "envoy/envoylaw07.PtypesParts", spec := "ptypesParts", unfollowed := true, recurses := true, apart := false, narrowed := true }
def PtypesPartsUptoSaid : Prop := ptypesPartsUptoRow.holds Try.pinned (OpenSpec.upto ptypesPartsSpec)

/-- 'envoylaw07.PtypesFails', WHERE WHAT IT READS IS OF BULK AT MOST 1048576: true; the input reads as it did. -/
def ptypesFailsUptoRow : OpenClaim := { program := "ytjigahnncojikaa", sum := "ccce8c2ed8c1f74ac4edd80662aefad0b2b1497cb19c597f13a72f10b92331a3", func := "envoy/envoylaw07.PtypesFails", spec := "ptypesFails", unfollowed := true, recurses := true, apart := false, narrowed := true }
def PtypesFailsUptoSaid : Prop := ptypesFailsUptoRow.holds Try.pinned (OpenSpec.upto ptypesFailsSpec)

/-- 'envoylaw07.PtypesLegal', WHERE WHAT IT READS IS OF BULK AT MOST 1048576: true; the input reads as it did. -/
def ptypesLegalUptoRow : OpenClaim := { program := "ytjigahnncojikaa", sum := "ccce8c2ed8c1f74ac4edd80662aefad0b2b1497cb19c597f13a72f10b92331a3", func := "envoy/envoylaw07.PtypesLegal", spec := "ptypesLegal", unfollowed := true, recurses := true, apart := false, narrowed := true }
def PtypesLegalUptoSaid : Prop := ptypesLegalUptoRow.holds Try.pinned (OpenSpec.upto ptypesLegalSpec)

end Rows
end Go.Proofs.Ytjigahnncojikaa
