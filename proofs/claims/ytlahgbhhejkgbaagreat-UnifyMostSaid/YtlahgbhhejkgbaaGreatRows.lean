/-
  NARROWER THAN 'FOR EVERY INPUT', by the rows' own cells (each row's printed sentence says how): UnifyUnifies: loops · UnifyAll: loops · UnifyMost: loops · UnifyTurned: loops.
  DERIVED. THE GIVEN ROWS OF THIS SEAT. 4 by the template 'for every input the law returns true; each argument reads behind the call as it read before'; 0 by the template 'total and deterministic' (their statements: YtlahgbhhejkgbaaGreatTotals.lean).
  GIVEN WITH THE SEED: the statements are not yours to turn. If you find one false, say at which input.
  Laid BY PROGRAM, IN A SANDBOX (cutbox-rows.mjs): the forced cells as the released guide's own fill.sh prints them over the translation 684bde46afaa1c69… (all of the seat's roots in one cut). By AI agents, Wed Nov 11 2026. No macro, syntax, notation, axiom, sorry.
-/
import Derived.Test.YtlahgbhhejkgbaaGreatChecked
import GoSem.Claim
import GoSem.ClaimJoined
import GoSem.ClaimMapViews
import Derived.JoinedTies
import Derived.KernelRfl
namespace Go.Proofs.YtlahgbhhejkgbaaGreat
/- THE CELL 'sum', in the pinned program and in every row, IS THE sha256 OF THE DUMP (.gsa) THAT YtlahgbhhejkgbaaGreatProg.lean LOADS. Nothing in Lean hashes anything: it is a label: what it is worth is what the hold of that sum in a sandbox is worth. -/
noncomputable def Tryz.pinned : Pinned := { name := "ytlahgbhhejkgbaagreat", sum := "684bde46afaa1c691498b31564cb27db7bccec862090766f26a6ddea69b26eca", checked := Tryz.checked }
namespace Rows
def none {H : Type} : Left H := { results := [], args := [] }

/-- 'envoylaw18.UnifyUnifies': WHATEVER THE INPUT: true; the input reads as it did. -/
def unifyUnifiesSpec : ChangeSpec := { name := "unifyUnifies", fn := fun _ => fun
  | [d1, d2] => { results := [.lit (.bool true)], args := [d1, d2] }
  | _ => none }
def unifyUnifiesRow : OpenClaim := { program := "ytlahgbhhejkgbaagreat", sum := "684bde46afaa1c691498b31564cb27db7bccec862090766f26a6ddea69b26eca", func := "envoy/envoylaw18.UnifyUnifies", spec := "unifyUnifies", inPlace := ["internal/bytealg.IndexByteString", "internal/bytealg.IndexString", "internal/abi.NoEscape", "slices.overlaps[envoy/api.Pair]"], unfollowed := true, recurses := true, named := ["internal/bytealg.MaxLen"], loops := true, apart := false }
def UnifyUnifiesSaid : Prop := unifyUnifiesRow.holds Tryz.pinned (OpenSpec.ofChange unifyUnifiesSpec)

/-- ITS FALSE NEIGHBOUR: 'it returns false'. Refute it at one input. -/
def unifyUnifiesWrong : ChangeSpec := { name := "unifyUnifies", fn := fun _ => fun
  | [d1, d2] => { results := [.lit (.bool false)], args := [d1, d2] }
  | _ => none }
def UnifyUnifiesWrongFalsely : Prop := unifyUnifiesRow.holds Tryz.pinned (OpenSpec.ofChange unifyUnifiesWrong)

/-- 'envoylaw18.UnifyAll': WHATEVER THE INPUT: true; the input reads as it did. -/
def unifyAllSpec : ChangeSpec := { name := "unifyAll", fn := fun _ => fun
  | [d1, d2] => { results := [.lit (.bool true)], args := [d1, d2] }
  | _ => none }
def unifyAllRow : OpenClaim := { program := "ytlahgbhhejkgbaagreat", sum := "684bde46afaa1c691498b31564cb27db7bccec862090766f26a6ddea69b26eca", func := "envoy/envoylaw18.UnifyAll", spec := "unifyAll", inPlace := ["internal/bytealg.IndexByteString", "internal/bytealg.IndexString", "internal/abi.NoEscape", "slices.overlaps[envoy/api.Pair]"], unfollowed := true, recurses := true, named := ["internal/bytealg.MaxLen"], loops := true, apart := false }
def UnifyAllSaid : Prop := unifyAllRow.holds Tryz.pinned (OpenSpec.ofChange unifyAllSpec)

/-- ITS FALSE NEIGHBOUR: 'it returns false'. Refute it at one input. -/
def unifyAllWrong : ChangeSpec := { name := "unifyAll", fn := fun _ => fun
  | [d1, d2] => { results := [.lit (.bool false)], args := [d1, d2] }
  | _ => none }
def UnifyAllWrongFalsely : Prop := unifyAllRow.holds Tryz.pinned (OpenSpec.ofChange unifyAllWrong)

/-- 'envoylaw18.UnifyMost': WHATEVER THE INPUT: true; the input reads as it did. -/
def unifyMostSpec : ChangeSpec := { name := "unifyMost", fn := fun _ => fun
  | [d1, d2, d3] => { results := [.lit (.bool true)], args := [d1, d2, d3] }
  | _ => none }
def unifyMostRow : OpenClaim := { program := "ytlahgbhhejkgbaagreat", sum := "684bde46afaa1c691498b31564cb27db7bccec862090766f26a6ddea69b26eca", func := "envoy/envoylaw18.UnifyMost", spec := "unifyMost", inPlace := ["internal/bytealg.IndexByteString", "internal/bytealg.IndexString", "internal/abi.NoEscape", "slices.overlaps[envoy/api.Pair]"], unfollowed := true, recurses := true, named := ["internal/bytealg.MaxLen"], loops := true, apart := false }
def UnifyMostSaid : Prop := unifyMostRow.holds Tryz.pinned (OpenSpec.ofChange unifyMostSpec)

/-- ITS FALSE NEIGHBOUR: 'it returns false'. Refute it at one input. -/
def unifyMostWrong : ChangeSpec := { name := "unifyMost", fn := fun _ => fun
  | [d1, d2, d3] => { results := [.lit (.bool false)], args := [d1, d2, d3] }
  | _ => none }
def UnifyMostWrongFalsely : Prop := unifyMostRow.holds Tryz.pinned (OpenSpec.ofChange unifyMostWrong)

/-- 'envoylaw18.UnifyTurned': WHATEVER THE INPUT: true; the input reads as it did. -/
def unifyTurnedSpec : ChangeSpec := { name := "unifyTurned", fn := fun _ => fun
  | [d1, d2] => { results := [.lit (.bool true)], args := [d1, d2] }
  | _ => none }
def unifyTurnedRow : OpenClaim := { program := "ytlahgbhhejkgbaagreat", sum := "684bde46afaa1c691498b31564cb27db7bccec862090766f26a6ddea69b26eca", func := "envoy/envoylaw18.UnifyTurned", spec := "unifyTurned", inPlace := ["internal/bytealg.IndexByteString", "internal/bytealg.IndexString", "internal/abi.NoEscape", "slices.overlaps[envoy/api.Pair]"], unfollowed := true, recurses := true, named := ["internal/bytealg.MaxLen"], loops := true, apart := false }
def UnifyTurnedSaid : Prop := unifyTurnedRow.holds Tryz.pinned (OpenSpec.ofChange unifyTurnedSpec)

/-- ITS FALSE NEIGHBOUR: 'it returns false'. Refute it at one input. -/
def unifyTurnedWrong : ChangeSpec := { name := "unifyTurned", fn := fun _ => fun
  | [d1, d2] => { results := [.lit (.bool false)], args := [d1, d2] }
  | _ => none }
def UnifyTurnedWrongFalsely : Prop := unifyTurnedRow.holds Tryz.pinned (OpenSpec.ofChange unifyTurnedWrong)

/- THE SECOND FORM. 'bulk': how many values and letters a reading holds, each counted each time it is reached (what is shared counts as often as it is met; a slice's spare places count too). A statement '..UptoSaid' is the law's where the arguments, and the package variables that the reading takes, are together of bulk at most 1048576: NARROWER than '..Said'. Prove '..Said' where nothing that the law and all that it calls make is longer than what came in: it says more and counts as full. Else prove '..UptoSaid'. A law counts once. -/
mutual
def uptoBulk {H : Type} : DataW H → Nat
  | .lit (.string bytes) => bytes.length + 1
  | .lit _ => 1
  | .nil => 1
  | .ptr d => uptoBulk d + 1
  | .slice elems spare => uptoBulkAll elems + uptoBulkAll spare + 1
  | .agg parts => uptoBulkAll parts + 1
  | .iface _ d => uptoBulk d + 1
  | .map entries => uptoBulkEntries entries + 1
  | .held _ => 1
def uptoBulkAll {H : Type} : List (DataW H) → Nat
  | [] => 0
  | d :: r => uptoBulk d + uptoBulkAll r
def uptoBulkEntries {H : Type} : List (Lit × DataW H) → Nat
  | [] => 0
  | x :: r => uptoBulkEntry x + uptoBulkEntries r
def uptoBulkEntry {H : Type} : Lit × DataW H → Nat
  | (.string bytes, d) => bytes.length + uptoBulk d + 1
  | (_, d) => uptoBulk d + 1
 end
def uptoSmall : (H : Type) → List (DataW H) → Bool := fun _ ds => decide (uptoBulkAll ds ≤ 1048576)
def OpenSpec.upto (s : _root_.Go.ChangeSpec) : _root_.Go.OpenSpec := { _root_.Go.OpenSpec.ofChange s with cond := some uptoSmall }

/-- 'envoylaw18.UnifyUnifies', WHERE WHAT IT READS IS OF BULK AT MOST 1048576: true; the input reads as it did. -/
def unifyUnifiesUptoRow : OpenClaim := { program := "ytlahgbhhejkgbaagreat", sum := "684bde46afaa1c691498b31564cb27db7bccec862090766f26a6ddea69b26eca", func := "envoy/envoylaw18.UnifyUnifies", spec := "unifyUnifies", inPlace := ["internal/bytealg.IndexByteString", "internal/bytealg.IndexString", "internal/abi.NoEscape", "slices.overlaps[envoy/api.Pair]"], unfollowed := true, recurses := true, named := ["internal/bytealg.MaxLen"], loops := true, apart := false, narrowed := true }
def UnifyUnifiesUptoSaid : Prop := unifyUnifiesUptoRow.holds Tryz.pinned (OpenSpec.upto unifyUnifiesSpec)

/-- 'envoylaw18.UnifyAll', WHERE WHAT IT READS IS OF BULK AT MOST 1048576: true; the input reads as it did. -/
def unifyAllUptoRow : OpenClaim := { program := "ytlahgbhhejkgbaagreat", sum := "684bde46afaa1c691498b31564cb27db7bccec862090766f26a6ddea69b26eca", func := "envoy/envoylaw18.UnifyAll", spec := "unifyAll", inPlace := ["internal/bytealg.IndexByteString", "internal/bytealg.IndexString", "internal/abi.NoEscape", "slices.overlaps[envoy/api.Pair]"], unfollowed := true, recurses := true, named := ["internal/bytealg.MaxLen"], loops := true, apart := false, narrowed := true }
def UnifyAllUptoSaid : Prop := unifyAllUptoRow.holds Tryz.pinned (OpenSpec.upto unifyAllSpec)

/-- 'envoylaw18.UnifyMost', WHERE WHAT IT READS IS OF BULK AT MOST 1048576: true; the input reads as it did. -/
def unifyMostUptoRow : OpenClaim := { program := "ytlahgbhhejkgbaagreat", sum := "684bde46afaa1c691498b31564cb27db7bccec862090766f26a6ddea69b26eca", func := "envoy/envoylaw18.UnifyMost", spec := "unifyMost", inPlace := ["internal/bytealg.IndexByteString", "internal/bytealg.IndexString", "internal/abi.NoEscape", "slices.overlaps[envoy/api.Pair]"], unfollowed := true, recurses := true, named := ["internal/bytealg.MaxLen"], loops := true, apart := false, narrowed := true }
def UnifyMostUptoSaid : Prop := unifyMostUptoRow.holds Tryz.pinned (OpenSpec.upto unifyMostSpec)

/-- 'envoylaw18.UnifyTurned', WHERE WHAT IT READS IS OF BULK AT MOST 1048576: true; the input reads as it did. -/
def unifyTurnedUptoRow : OpenClaim := { program := "ytlahgbhhejkgbaagreat", sum := "684bde46afaa1c691498b31564cb27db7bccec862090766f26a6ddea69b26eca", func := "envoy/envoylaw18.UnifyTurned", spec := "unifyTurned", inPlace := ["internal/bytealg.IndexByteString", "internal/bytealg.IndexString", "internal/abi.NoEscape", "slices.overlaps[envoy/api.Pair]"], unfollowed := true, recurses := true, named := ["internal/bytealg.MaxLen"], loops := true, apart := false, narrowed := true }
def UnifyTurnedUptoSaid : Prop := unifyTurnedUptoRow.holds Tryz.pinned (OpenSpec.upto unifyTurnedSpec)

end Rows
end Go.Proofs.YtlahgbhhejkgbaaGreat
