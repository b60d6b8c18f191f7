/-
  No cell of these rows narrows 'for every input' (looked for: loops, veiled, ifaces, maps, wideKeys, modest, calm, conditions, laid).
  DERIVED. THE GIVEN ROWS OF THIS SEAT. 3 by the template 'for every input the law returns true; each argument reads behind the call as it read before'; 0 by the template 'total and deterministic' (their statements: YtfjbmjplnmaclaaTotals.lean).
  GIVEN WITH THE SEED: the statements are not yours to turn. If you find one false, say at which input.
  Laid BY PROGRAM, IN A SANDBOX (cutbox-rows.mjs): the forced cells as the released guide's own fill.sh prints them over the translation f54d1da8cd55f8c1… (all of the seat's roots in one cut). By AI agents, Wed Nov 11 2026. No macro, syntax, notation, axiom, sorry.
-/
import Derived.Test.YtfjbmjplnmaclaaChecked
import GoSem.Claim
import GoSem.ClaimJoined
import GoSem.ClaimMapViews
import Derived.JoinedTies
import Derived.KernelRfl
namespace Go.Proofs.Ytfjbmjplnmaclaa
/- THE CELL 'sum', in the pinned program and in every row, IS THE sha256 OF THE DUMP (.gsa) THAT YtfjbmjplnmaclaaProg.lean LOADS. Nothing in Lean hashes anything: it is a label: what it is worth is what the hold of that sum in a sandbox is worth. -/
noncomputable def Try.pinned : Pinned := { name := "ytfjbmjplnmaclaa", sum := "f54d1da8cd55f8c18f9274f832a7d076445d23873824058f161c54f2c3b741e5", checked := Try.checked }
namespace Rows
def none {H : Type} : Left H := { results := [], args := [] }

/-- 'envoylaw10.PdeclsWithin': WHATEVER THE INPUT: true; the input reads as it did. -/
def pdeclsWithinSpec : ChangeSpec := { name := "pdeclsWithin", fn := fun _ => fun
  | [d] => { results := [.lit (.bool true)], args := [d] }
  | _ => none }
def pdeclsWithinRow : OpenClaim := { program := "ytfjbmjplnmaclaa", sum := "f54d1da8cd55f8c18f9274f832a7d076445d23873824058f161c54f2c3b741e5", func := "envoy/envoylaw10.PdeclsWithin", spec := "pdeclsWithin", unfollowed := true, recurses := true, apart := false }
def PdeclsWithinSaid : Prop := pdeclsWithinRow.holds Try.pinned (OpenSpec.ofChange pdeclsWithinSpec)

/-- ITS FALSE NEIGHBOUR: 'it returns false'. Refute it at one input. -/
def pdeclsWithinWrong : ChangeSpec := { name := "pdeclsWithin", fn := fun _ => fun
  | [d] => { results := [.lit (.bool false)], args := [d] }
  | _ => none }
def PdeclsWithinWrongFalsely : Prop := pdeclsWithinRow.holds Try.pinned (OpenSpec.ofChange pdeclsWithinWrong)

/-- 'envoylaw10.PdeclsOne': WHATEVER THE INPUT: true; the input reads as it did. -/
def pdeclsOneSpec : ChangeSpec := { name := "pdeclsOne", fn := fun _ => fun
  | [d] => { results := [.lit (.bool true)], args := [d] }
  | _ => none }
def pdeclsOneRow : OpenClaim := { program := "ytfjbmjplnmaclaa", sum := "f54d1da8cd55f8c18f9274f832a7d076445d23873824058f161c54f2c3b741e5", func := "envoy/envoylaw10.PdeclsOne", spec := "pdeclsOne", unfollowed := true, recurses := true, apart := false }
def PdeclsOneSaid : Prop := pdeclsOneRow.holds Try.pinned (OpenSpec.ofChange pdeclsOneSpec)

/-- ITS FALSE NEIGHBOUR: 'it returns false'. Refute it at one input. -/
def pdeclsOneWrong : ChangeSpec := { name := "pdeclsOne", fn := fun _ => fun
  | [d] => { results := [.lit (.bool false)], args := [d] }
  | _ => none }
def PdeclsOneWrongFalsely : Prop := pdeclsOneRow.holds Try.pinned (OpenSpec.ofChange pdeclsOneWrong)

/-- 'envoylaw10.PdeclsJoined': WHATEVER THE INPUT: true; the input reads as it did. -/
def pdeclsJoinedSpec : ChangeSpec := { name := "pdeclsJoined", fn := fun _ => fun
  | [d1, d2] => { results := [.lit (.bool true)], args := [d1, d2] }
  | _ => none }
def pdeclsJoinedRow : OpenClaim := { program := "ytfjbmjplnmaclaa", sum := "f54d1da8cd55f8c18f9274f832a7d076445d23873824058f161c54f2c3b741e5", func := "envoy/envoylaw10.PdeclsJoined", spec := "pdeclsJoined", unfollowed := true, recurses := true, apart := false }
def PdeclsJoinedSaid : Prop := pdeclsJoinedRow.holds Try.pinned (OpenSpec.ofChange pdeclsJoinedSpec)

/-- ITS FALSE NEIGHBOUR: 'it returns false'. Refute it at one input. -/
def pdeclsJoinedWrong : ChangeSpec := { name := "pdeclsJoined", fn := fun _ => fun
  | [d1, d2] => { results := [.lit (.bool false)], args := [d1, d2] }
  | _ => none }
def PdeclsJoinedWrongFalsely : Prop := pdeclsJoinedRow.holds Try.pinned (OpenSpec.ofChange pdeclsJoinedWrong)

/- THE SECOND FORM. 'bulk': how many values and letters a reading holds, each counted each time it is reached (what is shared counts as often as it is met; a slice's spare places count too). A statement '..UptoSaid' is the law's where the arguments, and the package variables that the reading takes, are together of bulk at most 1048576: NARROWER than '..Said'. Prove '..Said' where nothing that the law and all that it calls make is longer than what came in: it says more and counts as full. Else prove '..UptoSaid'. A law counts once. -/
mutual
def uptoBulk {H : Type} : DataW H → Nat
  | .lit (.string bytes) => bytes.length + 1
  | .lit _ => 1
  | .nil => 1
  | .ptr d => uptoBulk d + 1
  | .slice elems spare => uptoBulkAll elems + uptoBulkAll spare + 1
  | .agg parts => uptoBulkAll parts + 1
  | .iface _ d => uptoBulk d + 1
  | .map entries => uptoBulkEntries entries + 1
  | .held _ => 1
def uptoBulkAll {H : Type} : List (DataW H) → Nat
  | [] => 0
  | d :: r => uptoBulk d + uptoBulkAll r
def uptoBulkEntries {H : Type} : List (Lit × DataW H) → Nat
  | [] => 0
  | x :: r => uptoBulkEntry x + uptoBulkEntries r
def uptoBulkEntry {H : Type} : Lit × DataW H → Nat
  | (.string bytes, d) => bytes.length + uptoBulk d + 1
  | (_, d) => uptoBulk d + 1
 end
def uptoSmall : (H : Type) → List (DataW H) → Bool := fun _ ds => decide (uptoBulkAll ds ≤ 1048576)
def OpenSpec.upto (s : _root_.Go.ChangeSpec) : _root_.Go.OpenSpec := { _root_.Go.OpenSpec.ofChange s with cond := some uptoSmall }

/-- 'envoylaw10.PdeclsWithin', WHERE WHAT IT READS IS OF BULK AT MOST 1048576: true; the input reads as it did. -/
def pdeclsWithinUptoRow : OpenClaim := { program := "ytfjbmjplnmaclaa", sum := "f54d1da8cd55f8c18f9274f832a7d076445d23873824058f161c54f2c3b741e5", func := "envoy/envoylaw10.PdeclsWithin", spec := "pdeclsWithin", unfollowed := true, recurses := true, apart := false, narrowed := true }
def PdeclsWithinUptoSaid : Prop := pdeclsWithinUptoRow.holds Try.pinned (OpenSpec.upto pdeclsWithinSpec)

/-- 'envoylaw10.PdeclsOne', WHERE WHAT IT READS IS OF BULK AT MOST 1048576: true; the input reads as it did. -/
def pdeclsOneUptoRow : OpenClaim := { program := "ytfjbmjplnmaclaa", sum := "f54d1da8cd55f8c18f9274f832a7d076445d23873824058f161c54f2c3b741e5", func := "envoy/envoylaw10.PdeclsOne", spec := "pdeclsOne", unfollowed := true, recurses := true, apart := false, narrowed := true }
def PdeclsOneUptoSaid : Prop := pdeclsOneUptoRow.holds Try.pinned (OpenSpec.upto pdeclsOneSpec)

/-- 'envoylaw10.PdeclsJoined', WHERE WHAT IT READS IS OF BULK AT MOST 1048576: true; the input reads as it did. -/
def pdeclsJoinedUptoRow : OpenClaim := { program := "ytfjbmjplnmaclaa", sum := "f54d1da8cd55f8c18f9274f832a7d076445d23873824058f161c54f2c3b741e5", func := "envoy/envoylaw10.PdeclsJoined", spec := "pdeclsJoined", unfollowed := true, recurses := true, apart := false, narrowed := true }
def PdeclsJoinedUptoSaid : Prop := pdeclsJoinedUptoRow.holds Try.pinned (OpenSpec.upto pdeclsJoinedSpec)

end Rows
end Go.Proofs.Ytfjbmjplnmaclaa
