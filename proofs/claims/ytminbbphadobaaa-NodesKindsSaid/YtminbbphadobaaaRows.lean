/-
  NARROWER THAN 'FOR EVERY INPUT', by the rows' own cells (each row's printed sentence says how): NodesCounts: loops · NodesSame: loops · NodesKinds: loops · NodesApart: loops.
  DERIVED. THE GIVEN ROWS OF THIS SEAT. 4 by the template 'for every input the law returns true; each argument reads behind the call as it read before'; 0 by the template 'total and deterministic' (their statements: YtminbbphadobaaaTotals.lean).
  GIVEN WITH THE SEED: the statements are not yours to turn. If you find one false, say at which input.
  Laid BY PROGRAM, IN A SANDBOX (cutbox-rows.mjs): the forced cells as the released guide's own fill.sh prints them over the translation bf740608dc7d1a17… (all of the seat's roots in one cut). By AI agents, Wed Nov 11 2026. No macro, syntax, notation, axiom, sorry.
-/
import Derived.Test.YtminbbphadobaaaChecked
import GoSem.Claim
import GoSem.ClaimJoined
import GoSem.ClaimMapViews
import Derived.JoinedTies
import Derived.KernelRfl
namespace Go.Proofs.Ytminbbphadobaaa
/- THE CELL 'sum', in the pinned program and in every row, IS THE sha256 OF THE DUMP (.gsa) THAT YtminbbphadobaaaProg.lean LOADS. Nothing in Lean hashes anything: it is a label: what it is worth is what the hold of that sum in a sandbox is worth. -/
noncomputable def Try.pinned : Pinned := { name := "ytminbbphadobaaa", sum := "bf740608dc7d1a17bfe51f8d555948ce1e35f60d713e3abe600c8d62e9c2f0ff", checked := Try.checked }
namespace Rows
def none {H : Type} : Left H := { results := [], args := [] }

/-- 'envoylaw06.NodesCounts': WHATEVER THE INPUT: true; the input reads as it did. -/
def nodesCountsSpec : ChangeSpec := { name := "nodesCounts", fn := fun _ => fun
  | [d] => { results := [.lit (.bool true)], args := [d] }
  | _ => none }
def nodesCountsRow : OpenClaim := { program := "ytminbbphadobaaa", sum := "bf740608dc7d1a17bfe51f8d555948ce1e35f60d713e3abe600c8d62e9c2f0ff", func := "envoy/envoylaw06.NodesCounts", spec := "nodesCounts", unfollowed := true, recurses := true, loops := true, apart := false }
def NodesCountsSaid : Prop := nodesCountsRow.holds Try.pinned (OpenSpec.ofChange nodesCountsSpec)

/-- ITS FALSE NEIGHBOUR: 'it returns false'. Refute it at one input. -/
def nodesCountsWrong : ChangeSpec := { name := "nodesCounts", fn := fun _ => fun
  | [d] => { results := [.lit (.bool false)], args := [d] }
  | _ => none }
def NodesCountsWrongFalsely : Prop := nodesCountsRow.holds Try.pinned (OpenSpec.ofChange nodesCountsWrong)

/-- 'envoylaw06.NodesSame': WHATEVER THE INPUT: true; the input reads as it did. -/
def nodesSameSpec : ChangeSpec := { name := "nodesSame", fn := fun _ => fun
  | [d1, d2] => { results := [.lit (.bool true)], args := [d1, d2] }
  | _ => none }
def nodesSameRow : OpenClaim := { program := "ytminbbphadobaaa", sum := "bf740608dc7d1a17bfe51f8d555948ce1e35f60d713e3abe600c8d62e9c2f0ff", func := "envoy/envoylaw06.NodesSame", spec := "nodesSame", unfollowed := true, recurses := true, loops := true, apart := false }
def NodesSameSaid : Prop := nodesSameRow.holds Try.pinned (OpenSpec.ofChange nodesSameSpec)

/-- ITS FALSE NEIGHBOUR: 'it returns false'. Refute it at one input. -/
def nodesSameWrong : ChangeSpec := { name := "nodesSame", fn := fun _ => fun
  | [d1, d2] => { results := [.lit (.bool false)], args := [d1, d2] }
  | _ => none }
def NodesSameWrongFalsely : Prop := nodesSameRow.holds Try.pinned (OpenSpec.ofChange nodesSameWrong)

/-- 'envoylaw06.NodesKinds': WHATEVER THE INPUT: true; the input reads as it did. -/
def nodesKindsSpec : ChangeSpec := { name := "nodesKinds", fn := fun _ => fun
  | [d] => { results := [.lit (.bool true)], args := [d] }
  | _ => none }
def nodesKindsRow : OpenClaim := { program := "ytminbbphadobaaa", sum := "bf740608dc7d1a17bfe51f8d555948ce1e35f60d713e3abe600c8d62e9c2f0ff", func := "envoy/envoylaw06.NodesKinds", spec := "nodesKinds", unfollowed := true, recurses := true, loops := true, apart := false }
def NodesKindsSaid : Prop := nodesKindsRow.holds Try.pinned (OpenSpec.ofChange nodesKindsSpec)

/-- ITS FALSE NEIGHBOUR: 'it returns false'. Refute it at one input. -/
def nodesKindsWrong : ChangeSpec := { name := "nodesKinds", fn := fun _ => fun
  | [d] => { results := [.lit (.bool false)], args := [d] }
  | _ => none }
def NodesKindsWrongFalsely : Prop := nodesKindsRow.holds Try.pinned (OpenSpec.ofChange nodesKindsWrong)

/-- 'envoylaw06.NodesApart': WHATEVER THE INPUT: true; the input reads as it did. -/
def nodesApartSpec : ChangeSpec := { name := "nodesApart", fn := fun _ => fun
  | [d] => { results := [.lit (.bool true)], args := [d] }
  | _ => none }
def nodesApartRow : OpenClaim := { program := "ytminbbphadobaaa", sum := "bf740608dc7d1a17bfe51f8d555948ce1e35f60d713e3abe600c8d62e9c2f0ff", func := "envoy/envoylaw06.NodesApart", spec := "nodesApart", unfollowed := true, recurses := true, loops := true, apart := false }
def NodesApartSaid : Prop := nodesApartRow.holds Try.pinned (OpenSpec.ofChange nodesApartSpec)

/-- ITS FALSE NEIGHBOUR: 'it returns false'. Refute it at one input. -/
def nodesApartWrong : ChangeSpec := { name := "nodesApart", fn := fun _ => fun
  | [d] => { results := [.lit (.bool false)], args := [d] }
  | _ => none }
def NodesApartWrongFalsely : Prop := nodesApartRow.holds Try.pinned (OpenSpec.ofChange nodesApartWrong)

/- THE SECOND FORM. 'bulk': how many values and letters a reading holds, each counted each time it is reached (what is shared counts as often as it is met; a slice's spare places count too). A statement '..UptoSaid' is the law's where the arguments, and the package variables that the reading takes, are together of bulk at most 1048576: NARROWER than '..Said'. Prove '..Said' where nothing that the law and all that it calls make is longer than what came in: it says more and counts as full. Else prove '..UptoSaid'. A law counts once. -/
mutual
def uptoBulk {H : Type} : DataW H → Nat
  | .lit (.string bytes) => bytes.length + 1
  | .lit _ => 1
  | .nil => 1
  | .ptr d => uptoBulk d + 1
  | .slice elems spare => uptoBulkAll elems + uptoBulkAll spare + 1
  | .agg parts => uptoBulkAll parts + 1
  | .iface _ d => uptoBulk d + 1
  | .map entries => uptoBulkEntries entries + 1
  | .held _ => 1
def uptoBulkAll {H : Type} : List (DataW H) → Nat
  | [] => 0
  | d :: r => uptoBulk d + uptoBulkAll r
def uptoBulkEntries {H : Type} : List (Lit × DataW H) → Nat
  | [] => 0
  | x :: r => uptoBulkEntry x + uptoBulkEntries r
def uptoBulkEntry {H : Type} : Lit × DataW H → Nat
  | (.string bytes, d) => bytes.length + uptoBulk d + 1
  | (_, d) => uptoBulk d + 1
 end
def uptoSmall : (H : Type) → List (DataW H) → Bool := fun _ ds => decide (uptoBulkAll ds ≤ 1048576)
def OpenSpec.upto (s : _root_.Go.ChangeSpec) : _root_.Go.OpenSpec := { _root_.Go.OpenSpec.ofChange s with cond := some uptoSmall }

/-- 'envoylaw06.NodesCounts', WHERE WHAT IT READS IS OF BULK AT MOST 1048576: true; the input reads as it did. -/
def nodesCountsUptoRow : OpenClaim := { program := "ytminbbphadobaaa", sum := "bf740608dc7d1a17bfe51f8d555948ce1e35f60d713e3abe600c8d62e9c2f0ff", func := "envoy/envoylaw06.NodesCounts", spec := "nodesCounts", unfollowed := true, recurses := true, loops := true, apart := false, narrowed := true }
def NodesCountsUptoSaid : Prop := nodesCountsUptoRow.holds Try.pinned (OpenSpec.upto nodesCountsSpec)

/-- 'envoylaw06.NodesSame', WHERE WHAT IT READS IS OF BULK AT MOST 1048576: true; the input reads as it did. -/
def nodesSameUptoRow : OpenClaim := { program := "ytminbbphadobaaa", sum := "bf740608dc7d1a17bfe51f8d555948ce1e35f60d713e3abe600c8d62e9c2f0ff", func := "envoy/envoylaw06.NodesSame", spec := "nodesSame", unfollowed := true, recurses := true, loops := true, apart := false, narrowed := true }
def NodesSameUptoSaid : Prop := nodesSameUptoRow.holds Try.pinned (OpenSpec.upto nodesSameSpec)

/-- 'envoylaw06.NodesKinds', WHERE WHAT IT READS IS OF BULK AT MOST 1048576: true; the input reads as it did. -/
def nodesKindsUptoRow : OpenClaim := { program := "ytminbbphadobaaa", sum := "bf740608dc7d1a17bfe51f8d555948ce1e35f60d713e3abe600c8d62e9c2f0ff", func := "envoy/envoylaw06.NodesKinds", spec := "nodesKinds", unfollowed := true, recurses := true, loops := true, apart := false, narrowed := true }
def NodesKindsUptoSaid : Prop := nodesKindsUptoRow.holds Try.pinned (OpenSpec.upto nodesKindsSpec)

/-- 'envoylaw06.NodesApart', WHERE WHAT IT READS IS OF BULK AT MOST 1048576: true; the input reads as it did. -/
def nodesApartUptoRow : OpenClaim := { program := "ytminbbphadobaaa", sum := "bf740608dc7d1a17bfe51f8d555948ce1e35f60d713e3abe600c8d62e9c2f0ff", func := "envoy/envoylaw06.NodesApart", spec := "nodesApart", unfollowed := true, recurses := true, loops := true, apart := false, narrowed := true }
def NodesApartUptoSaid : Prop := nodesApartUptoRow.holds Try.pinned (OpenSpec.upto nodesApartSpec)

end Rows
end Go.Proofs.Ytminbbphadobaaa
