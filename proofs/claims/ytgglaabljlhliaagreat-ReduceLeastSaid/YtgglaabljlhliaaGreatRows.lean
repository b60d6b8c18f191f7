/-
  NARROWER THAN 'FOR EVERY INPUT', by the rows' own cells (each row's printed sentence says how): EntailMore: loops · EntailCases: loops · ReduceLeast: loops.
  DERIVED. THE GIVEN ROWS OF THIS SEAT. 3 by the template 'for every input the law returns true; each argument reads behind the call as it read before'; 0 by the template 'total and deterministic' (their statements: YtgglaabljlhliaaGreatTotals.lean).
  GIVEN WITH THE SEED: the statements are not yours to turn. If you find one false, say at which input.
  Laid BY PROGRAM, IN A SANDBOX (cutbox-rows.mjs): the forced cells as the released guide's own fill.sh prints them over the translation 5bdbb90c7f4c9547… (all of the seat's roots in one cut). By AI agents, Wed Nov 11 2026. No macro, syntax, notation, axiom, sorry.
-/
import Derived.Test.YtgglaabljlhliaaGreatChecked
import GoSem.Claim
import GoSem.ClaimJoined
import GoSem.ClaimMapViews
import Derived.JoinedTies
import Derived.KernelRfl
namespace Go.Proofs.YtgglaabljlhliaaGreat
/- THE CELL 'sum', in the pinned program and in every row, IS THE sha256 OF THE DUMP (.gsa) THAT YtgglaabljlhliaaGreatProg.lean LOADS. Nothing in Lean hashes anything: it is a label: what it is worth is what the hold of that sum in a sandbox is worth. -/
noncomputable def Tryz.pinned : Pinned := { name := "ytgglaabljlhliaagreat", sum := "5bdbb90c7f4c9547ffc919c5aa4b561cd8b320d1a6f9887db9874b94fdf656b6", checked := Tryz.checked }
namespace Rows
def none {H : Type} : Left H := { results := [], args := [] }

/-- 'envoylaw25.EntailMore': WHATEVER THE INPUT: true; the input reads as it did. -/
def entailMoreSpec : ChangeSpec := { name := "entailMore", fn := fun _ => fun
  | [d1, d2, d3] => { results := [.lit (.bool true)], args := [d1, d2, d3] }
  | _ => none }
def entailMoreRow : OpenClaim := { program := "ytgglaabljlhliaagreat", sum := "5bdbb90c7f4c9547ffc919c5aa4b561cd8b320d1a6f9887db9874b94fdf656b6", func := "envoy/envoylaw25.EntailMore", spec := "entailMore", inPlace := ["internal/bytealg.IndexByteString", "internal/bytealg.IndexString", "internal/abi.NoEscape", "slices.overlaps[envoy/api.Pair]", "internal/bytealg.MakeNoZero"], unfollowed := true, recurses := true, named := ["internal/bytealg.MaxLen"], loops := true, apart := false }
def EntailMoreSaid : Prop := entailMoreRow.holds Tryz.pinned (OpenSpec.ofChange entailMoreSpec)

/-- ITS FALSE NEIGHBOUR: 'it returns false'. Refute it at one input. -/
def entailMoreWrong : ChangeSpec := { name := "entailMore", fn := fun _ => fun
  | [d1, d2, d3] => { results := [.lit (.bool false)], args := [d1, d2, d3] }
  | _ => none }
def EntailMoreWrongFalsely : Prop := entailMoreRow.holds Tryz.pinned (OpenSpec.ofChange entailMoreWrong)

/-- 'envoylaw25.EntailCases': WHATEVER THE INPUT: true; the input reads as it did. -/
def entailCasesSpec : ChangeSpec := { name := "entailCases", fn := fun _ => fun
  | [d1, d2, d3] => { results := [.lit (.bool true)], args := [d1, d2, d3] }
  | _ => none }
def entailCasesRow : OpenClaim := { program := "ytgglaabljlhliaagreat", sum := "5bdbb90c7f4c9547ffc919c5aa4b561cd8b320d1a6f9887db9874b94fdf656b6", func := "envoy/envoylaw25.EntailCases", spec := "entailCases", inPlace := ["internal/bytealg.IndexByteString", "internal/bytealg.IndexString", "internal/abi.NoEscape", "slices.overlaps[envoy/api.Pair]", "internal/bytealg.MakeNoZero"], unfollowed := true, recurses := true, named := ["internal/bytealg.MaxLen"], loops := true, apart := false }
def EntailCasesSaid : Prop := entailCasesRow.holds Tryz.pinned (OpenSpec.ofChange entailCasesSpec)

/-- ITS FALSE NEIGHBOUR: 'it returns false'. Refute it at one input. -/
def entailCasesWrong : ChangeSpec := { name := "entailCases", fn := fun _ => fun
  | [d1, d2, d3] => { results := [.lit (.bool false)], args := [d1, d2, d3] }
  | _ => none }
def EntailCasesWrongFalsely : Prop := entailCasesRow.holds Tryz.pinned (OpenSpec.ofChange entailCasesWrong)

/-- 'envoylaw26.ReduceLeast': WHATEVER THE INPUT: true; the input reads as it did. -/
def reduceLeastSpec : ChangeSpec := { name := "reduceLeast", fn := fun _ => fun
  | [d1, d2] => { results := [.lit (.bool true)], args := [d1, d2] }
  | _ => none }
def reduceLeastRow : OpenClaim := { program := "ytgglaabljlhliaagreat", sum := "5bdbb90c7f4c9547ffc919c5aa4b561cd8b320d1a6f9887db9874b94fdf656b6", func := "envoy/envoylaw26.ReduceLeast", spec := "reduceLeast", inPlace := ["internal/bytealg.IndexByteString", "internal/bytealg.IndexString", "internal/abi.NoEscape", "slices.overlaps[envoy/api.Pair]", "internal/bytealg.MakeNoZero"], unfollowed := true, recurses := true, named := ["internal/bytealg.MaxLen"], loops := true, apart := false }
def ReduceLeastSaid : Prop := reduceLeastRow.holds Tryz.pinned (OpenSpec.ofChange reduceLeastSpec)

/-- ITS FALSE NEIGHBOUR: 'it returns false'. Refute it at one input. -/
def reduceLeastWrong : ChangeSpec := { name := "reduceLeast", fn := fun _ => fun
  | [d1, d2] => { results := [.lit (.bool false)], args := [d1, d2] }
  | _ => none }
def ReduceLeastWrongFalsely : Prop := reduceLeastRow.holds Tryz.pinned (OpenSpec.ofChange reduceLeastWrong)

/- THE SECOND FORM. 'bulk': how many values and letters a reading holds, each counted each time it is reached (what is shared counts as often as it is met; a slice's spare places count too). A statement '..UptoSaid' is the law's where the arguments, and the package variables that the reading takes, are together of bulk at most 1048576: NARROWER than '..Said'. Prove '..Said' where nothing that the law and all that it calls make is longer than what came in: it says more and counts as full. Else prove '..UptoSaid'. A law counts once. -/
mutual
def uptoBulk {H : Type} : DataW H → Nat
  | .lit (.string bytes) => bytes.length + 1
  | .lit _ => 1
  | .nil => 1
  | .ptr d => uptoBulk d + 1
  | .slice elems spare => uptoBulkAll elems + uptoBulkAll spare + 1
  | .agg parts => uptoBulkAll parts + 1
  | .iface _ d => uptoBulk d + 1
  | .map entries => uptoBulkEntries entries + 1
  | .held _ => 1
def uptoBulkAll {H : Type} : List (DataW H) → Nat
  | [] => 0
  | d :: r => uptoBulk d + uptoBulkAll r
def uptoBulkEntries {H : Type} : List (Lit × DataW H) → Nat
  | [] => 0
  | x :: r => uptoBulkEntry x + uptoBulkEntries r
def uptoBulkEntry {H : Type} : Lit × DataW H → Nat
  | (.string bytes, d) => bytes.length + uptoBulk d + 1
  | (_, d) => uptoBulk d + 1
 end
def uptoSmall : (H : Type) → List (DataW H) → Bool := fun _ ds => decide (uptoBulkAll ds ≤ 1048576)
def OpenSpec.upto (s : _root_.Go.ChangeSpec) : _root_.Go.OpenSpec := { _root_.Go.OpenSpec.ofChange s with cond := some uptoSmall }

/-- 'envoylaw25.EntailMore', WHERE WHAT IT READS IS OF BULK AT MOST 1048576: true; the input reads as it did. -/
def entailMoreUptoRow : OpenClaim := { program := "ytgglaabljlhliaagreat", sum := "5bdbb90c7f4c9547ffc919c5aa4b561cd8b320d1a6f9887db9874b94fdf656b6", func := "envoy/envoylaw25.EntailMore", spec := "entailMore", inPlace := ["internal/bytealg.IndexByteString", "internal/bytealg.IndexString", "internal/abi.NoEscape", "slices.overlaps[envoy/api.Pair]", "internal/bytealg.MakeNoZero"], unfollowed := true, recurses := true, named := ["internal/bytealg.MaxLen"], loops := true, apart := false, narrowed := true }
def EntailMoreUptoSaid : Prop := entailMoreUptoRow.holds Tryz.pinned (OpenSpec.upto entailMoreSpec)

/-- 'envoylaw25.EntailCases', WHERE WHAT IT READS IS OF BULK AT MOST 1048576: true; the input reads as it did. -/
def entailCasesUptoRow : OpenClaim := { program := "ytgglaabljlhliaagreat", sum := "5bdbb90c7f4c9547ffc919c5aa4b561cd8b320d1a6f9887db9874b94fdf656b6", func := "envoy/envoylaw25.EntailCases", spec := "entailCases", inPlace := ["internal/bytealg.IndexByteString", "internal/bytealg.IndexString", "internal/abi.NoEscape", "slices.overlaps[envoy/api.Pair]", "internal/bytealg.MakeNoZero"], unfollowed := true, recurses := true, named := ["internal/bytealg.MaxLen"], loops := true, apart := false, narrowed := true }
def EntailCasesUptoSaid : Prop := entailCasesUptoRow.holds Tryz.pinned (OpenSpec.upto entailCasesSpec)

/-- 'envoylaw26.ReduceLeast', WHERE WHAT IT READS IS OF BULK AT MOST 1048576: true; the input reads as it did. -/
def reduceLeastUptoRow : OpenClaim := { program := "ytgglaabljlhliaagreat", sum := "5bdbb90c7f4c9547ffc919c5aa4b561cd8b320d1a6f9887db9874b94fdf656b6", func := "envoy/envoylaw26.ReduceLeast", spec := "reduceLeast", inPlace := ["internal/bytealg.IndexByteString", "internal/bytealg.IndexString", "internal/abi.NoEscape", "slices.overlaps[envoy/api.Pair]", "internal/bytealg.MakeNoZero"], unfollowed := true, recurses := true, named := ["internal/bytealg.MaxLen"], loops := true, apart := false, narrowed := true }
def ReduceLeastUptoSaid : Prop := reduceLeastUptoRow.holds Tryz.pinned (OpenSpec.upto reduceLeastSpec)

end Rows
end Go.Proofs.YtgglaabljlhliaaGreat
