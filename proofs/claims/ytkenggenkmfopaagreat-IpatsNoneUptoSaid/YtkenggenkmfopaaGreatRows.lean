/-
  NARROWER THAN 'FOR EVERY INPUT', by the rows' own cells (each row's printed sentence says how): IstateSame: loops · IstateFails: loops · IstateNone: loops · IpatsNone: loops.
  DERIVED. THE GIVEN ROWS OF THIS SEAT. 4 by the template 'for every input the law returns true; each argument reads behind the call as it read before'; 0 by the template 'total and deterministic' (their statements: YtkenggenkmfopaaGreatTotals.lean).
  GIVEN WITH THE SEED: the statements are not yours to turn. If you find one false, say at which input.
  Laid BY PROGRAM, IN A SANDBOX (cutbox-rows.mjs): the forced cells as the released guide's own fill.sh prints them over the translation 9f5167600606201b… (all of the seat's roots in one cut). By AI agents, Wed Nov 11 2026. No macro, syntax, notation, axiom, sorry.
-/
import Derived.Test.YtkenggenkmfopaaGreatChecked
import GoSem.Claim
import GoSem.ClaimJoined
import GoSem.ClaimMapViews
import Derived.JoinedTies
import Derived.KernelRfl
namespace Go.Proofs.YtkenggenkmfopaaGreat
/- THE CELL 'sum', in the pinned program and in every row, IS THE sha256 OF THE DUMP (.gsa) THAT YtkenggenkmfopaaGreatProg.lean LOADS. Nothing in Lean hashes anything: it is a label: what it is worth is what the hold of that sum in a sandbox is worth. -/
noncomputable def Tryz.pinned : Pinned := { name := "ytkenggenkmfopaagreat", sum := "9f5167600606201b1a09217ce4be680f41d437f937586e78d32f2bc72648d073", checked := Tryz.checked }
namespace Rows
def none {H : Type} : Left H := { results := [], args := [] }

/-- 'envoylaw37.IstateSame': WHATEVER THE INPUT: true; the input reads as it did. -/
def istateSameSpec : ChangeSpec := { name := "istateSame", fn := fun _ => fun
  | [d1, d2, d3] => { results := [.lit (.bool true)], args := [d1, d2, d3] }
  | _ => none }
def istateSameRow : OpenClaim := { program := "ytkenggenkmfopaagreat", sum := "9f5167600606201b1a09217ce4be680f41d437f937586e78d32f2bc72648d073", func := "envoy/envoylaw37.IstateSame", spec := "istateSame", inPlace := ["slices.overlaps[envoy/api.Pair]", "internal/abi.NoEscape"], unfollowed := true, recurses := true, loops := true, apart := false }
def IstateSameSaid : Prop := istateSameRow.holds Tryz.pinned (OpenSpec.ofChange istateSameSpec)

/-- ITS FALSE NEIGHBOUR: 'it returns false'. Refute it at one input. -/
def istateSameWrong : ChangeSpec := { name := "istateSame", fn := fun _ => fun
  | [d1, d2, d3] => { results := [.lit (.bool false)], args := [d1, d2, d3] }
  | _ => none }
def IstateSameWrongFalsely : Prop := istateSameRow.holds Tryz.pinned (OpenSpec.ofChange istateSameWrong)

/-- 'envoylaw37.IstateFails': WHATEVER THE INPUT: true; the input reads as it did. -/
def istateFailsSpec : ChangeSpec := { name := "istateFails", fn := fun _ => fun
  | [d1, d2, d3] => { results := [.lit (.bool true)], args := [d1, d2, d3] }
  | _ => none }
def istateFailsRow : OpenClaim := { program := "ytkenggenkmfopaagreat", sum := "9f5167600606201b1a09217ce4be680f41d437f937586e78d32f2bc72648d073", func := "envoy/envoylaw37.IstateFails", spec := "istateFails", inPlace := ["slices.overlaps[envoy/api.Pair]", "internal/abi.NoEscape"], unfollowed := true, recurses := true, loops := true, apart := false }
def IstateFailsSaid : Prop := istateFailsRow.holds Tryz.pinned (OpenSpec.ofChange istateFailsSpec)

/-- ITS FALSE NEIGHBOUR: 'it returns false'. Refute it at one input. -/
def istateFailsWrong : ChangeSpec := { name := "istateFails", fn := fun _ => fun
  | [d1, d2, d3] => { results := [.lit (.bool false)], args := [d1, d2, d3] }
  | _ => none }
def IstateFailsWrongFalsely : Prop := istateFailsRow.holds Tryz.pinned (OpenSpec.ofChange istateFailsWrong)

/-- 'envoylaw37.IstateNone': WHATEVER THE INPUT: true; the input reads as it did. -/
def istateNoneSpec : ChangeSpec := { name := "istateNone", fn := fun _ => fun
  | [d] => { results := [.lit (.bool true)], args := [d] }
  | _ => none }
def istateNoneRow : OpenClaim := { program := "ytkenggenkmfopaagreat", sum := "9f5167600606201b1a09217ce4be680f41d437f937586e78d32f2bc72648d073", func := "envoy/envoylaw37.IstateNone", spec := "istateNone", inPlace := ["slices.overlaps[envoy/api.Pair]", "internal/abi.NoEscape"], unfollowed := true, recurses := true, loops := true, apart := false }
def IstateNoneSaid : Prop := istateNoneRow.holds Tryz.pinned (OpenSpec.ofChange istateNoneSpec)

/-- ITS FALSE NEIGHBOUR: 'it returns false'. Refute it at one input. -/
def istateNoneWrong : ChangeSpec := { name := "istateNone", fn := fun _ => fun
  | [d] => { results := [.lit (.bool false)], args := [d] }
  | _ => none }
def IstateNoneWrongFalsely : Prop := istateNoneRow.holds Tryz.pinned (OpenSpec.ofChange istateNoneWrong)

/-- 'envoylaw38.IpatsNone': WHATEVER THE INPUT: true; the input reads as it did. -/
def ipatsNoneSpec : ChangeSpec := { name := "ipatsNone", fn := fun _ => fun
  | [d1, d2] => { results := [.lit (.bool true)], args := [d1, d2] }
  | _ => none }
def ipatsNoneRow : OpenClaim := { program := "ytkenggenkmfopaagreat", sum := "9f5167600606201b1a09217ce4be680f41d437f937586e78d32f2bc72648d073", func := "envoy/envoylaw38.IpatsNone", spec := "ipatsNone", inPlace := ["slices.overlaps[envoy/api.Pair]", "internal/abi.NoEscape"], unfollowed := true, recurses := true, loops := true, apart := false }
def IpatsNoneSaid : Prop := ipatsNoneRow.holds Tryz.pinned (OpenSpec.ofChange ipatsNoneSpec)

/-- ITS FALSE NEIGHBOUR: 'it returns false'. Refute it at one input. -/
def ipatsNoneWrong : ChangeSpec := { name := "ipatsNone", fn := fun _ => fun
  | [d1, d2] => { results := [.lit (.bool false)], args := [d1, d2] }
  | _ => none }
def IpatsNoneWrongFalsely : Prop := ipatsNoneRow.holds Tryz.pinned (OpenSpec.ofChange ipatsNoneWrong)

/- THE SECOND FORM. 'bulk': how many values and letters a reading holds, each counted each time it is reached (what is shared counts as often as it is met; a slice's spare places count too). A statement '..UptoSaid' is the law's where the arguments, and the package variables that the reading takes, are together of bulk at most 1048576: NARROWER than '..Said'. Prove '..Said' where nothing that the law and all that it calls make is longer than what came in: it says more and counts as full. Else prove '..UptoSaid'. A law counts once. -/
mutual
def uptoBulk {H : Type} : DataW H → Nat
  | .lit (.string bytes) => bytes.length + 1
  | .lit _ => 1
  | .nil => 1
  | .ptr d => uptoBulk d + 1
  | .slice elems spare => uptoBulkAll elems + uptoBulkAll spare + 1
  | .agg parts => uptoBulkAll parts + 1
  | .iface _ d => uptoBulk d + 1
  | .map entries => uptoBulkEntries entries + 1
  | .held _ => 1
def uptoBulkAll {H : Type} : List (DataW H) → Nat
  | [] => 0
  | d :: r => uptoBulk d + uptoBulkAll r
def uptoBulkEntries {H : Type} : List (Lit × DataW H) → Nat
  | [] => 0
  | x :: r => uptoBulkEntry x + uptoBulkEntries r
def uptoBulkEntry {H : Type} : Lit × DataW H → Nat
  | (.string bytes, d) => bytes.length + uptoBulk d + 1
  | (_, d) => uptoBulk d + 1
 end
def uptoSmall : (H : Type) → List (DataW H) → Bool := fun _ ds => decide (uptoBulkAll ds ≤ 1048576)
def OpenSpec.upto (s : _root_.Go.ChangeSpec) : _root_.Go.OpenSpec := { _root_.Go.OpenSpec.ofChange s with cond := some uptoSmall }

/-- 'envoylaw37.IstateSame', WHERE WHAT IT READS IS OF BULK AT MOST 1048576: true; the input reads as it did. -/
def istateSameUptoRow : OpenClaim := { program := "ytkenggenkmfopaagreat", sum := "9f5167600606201b1a09217ce4be680f41d437f937586e78d32f2bc72648d073", func := "envoy/envoylaw37.IstateSame", spec := "istateSame", inPlace := ["slices.overlaps[envoy/api.Pair]", "internal/abi.NoEscape"], unfollowed := true, recurses := true, loops := true, apart := false, narrowed := true }
def IstateSameUptoSaid : Prop := istateSameUptoRow.holds Tryz.pinned (OpenSpec.upto istateSameSpec)

/-- 'envoylaw37.IstateFails', WHERE WHAT IT READS IS OF BULK AT MOST 1048576: true; the input reads as it did. -/
def istateFailsUptoRow : OpenClaim := { program := "ytkenggenkmfopaagreat", sum := "9f5167600606201b1a09217ce4be680f41d437f937586e78d32f2bc72648d073", func := "envoy/envoylaw37.IstateFails", spec := "istateFails", inPlace := ["slices.overlaps[envoy/api.Pair]", "internal/abi.NoEscape"], unfollowed := true, recurses := true, loops := true, apart := false, narrowed := true }
def IstateFailsUptoSaid : Prop := istateFailsUptoRow.holds Tryz.pinned (OpenSpec.upto istateFailsSpec)

/-- 'envoylaw37.IstateNone', WHERE WHAT IT READS IS OF BULK AT MOST 1048576: true; the input reads as it did. -/
def istateNoneUptoRow : OpenClaim := { program := "ytkenggenkmfopaagreat", sum := "9f5167600606201b1a09217ce4be680f41d437f937586e78d32f2bc72648d073", func := "envoy/envoylaw37.IstateNone", spec := "istateNone", inPlace := ["slices.overlaps[envoy/api.Pair]", "internal/abi.NoEscape"], unfollowed := true, recurses := true, loops := true, apart := false, narrowed := true }
def IstateNoneUptoSaid : Prop := istateNoneUptoRow.holds Tryz.pinned (OpenSpec.upto istateNoneSpec)

/-- 'envoylaw38.IpatsNone', WHERE WHAT IT READS IS OF BULK AT MOST 1048576: true; the input reads as it did. -/
def ipatsNoneUptoRow : OpenClaim := { program := "ytkenggenkmfopaagreat", sum := "9f5167600606201b1a09217ce4be680f41d437f937586e78d32f2bc72648d073", func := "envoy/envoylaw38.IpatsNone", spec := "ipatsNone", inPlace := ["slices.overlaps[envoy/api.Pair]", "internal/abi.NoEscape"], unfollowed := true, recurses := true, loops := true, apart := false, narrowed := true }
def IpatsNoneUptoSaid : Prop := ipatsNoneUptoRow.holds Tryz.pinned (OpenSpec.upto ipatsNoneSpec)

end Rows
end Go.Proofs.YtkenggenkmfopaaGreat
