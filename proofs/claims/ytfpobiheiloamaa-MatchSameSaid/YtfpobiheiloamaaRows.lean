/-
  NARROWER THAN 'FOR EVERY INPUT', by the rows' own cells (each row's printed sentence says how): PredsMany: loops · PredsOrder: loops · PredsOnce: loops · SubstApplies: loops · SubstSets: loops · SubstThen: loops · SubstNone: loops · SubstPreds: loops · MatchMatches: loops · MatchAll: loops · MatchCases: loops · MatchSame: loops.
  DERIVED. THE GIVEN ROWS OF THIS SEAT. 12 by the template 'for every input the law returns true; each argument reads behind the call as it read before'; 0 by the template 'total and deterministic' (their statements: YtfpobiheiloamaaTotals.lean).
  GIVEN WITH THE SEED: the statements are not yours to turn. If you find one false, say at which input.
  Laid BY PROGRAM, IN A SANDBOX (cutbox-rows.mjs): the forced cells as the released guide's own fill.sh prints them over the translation f82e082298c21633… (all of the seat's roots in one cut). By AI agents, Wed Nov 11 2026. No macro, syntax, notation, axiom, sorry.
-/
import Derived.Test.YtfpobiheiloamaaChecked
import GoSem.Claim
import GoSem.ClaimJoined
import GoSem.ClaimMapViews
import Derived.JoinedTies
import Derived.KernelRfl
namespace Go.Proofs.Ytfpobiheiloamaa
/- THE CELL 'sum', in the pinned program and in every row, IS THE sha256 OF THE DUMP (.gsa) THAT YtfpobiheiloamaaProg.lean LOADS. Nothing in Lean hashes anything: it is a label: what it is worth is what the hold of that sum in a sandbox is worth. -/
noncomputable def Try.pinned : Pinned := { name := "ytfpobiheiloamaa", sum := "f82e082298c216337a7560ec2da37b6fa2447b442071111858813eb321a58d84", checked := Try.checked }
namespace Rows
def none {H : Type} : Left H := { results := [], args := [] }

/-- 'envoylaw20.PredsMany': WHATEVER THE INPUT: true; the input reads as it did. -/
def predsManySpec : ChangeSpec := { name := "predsMany", fn := fun _ => fun
  | [d1, d2] => { results := [.lit (.bool true)], args := [d1, d2] }
  | _ => none }
def predsManyRow : OpenClaim := { program := "ytfpobiheiloamaa", sum := "f82e082298c216337a7560ec2da37b6fa2447b442071111858813eb321a58d84", func := "envoy/envoylaw20.PredsMany", spec := "predsMany", inPlace := ["internal/abi.NoEscape", "internal/bytealg.MakeNoZero"], unfollowed := true, recurses := true, loops := true, apart := false }
def PredsManySaid : Prop := predsManyRow.holds Try.pinned (OpenSpec.ofChange predsManySpec)

/-- ITS FALSE NEIGHBOUR: 'it returns false'. Refute it at one input. -/
def predsManyWrong : ChangeSpec := { name := "predsMany", fn := fun _ => fun
  | [d1, d2] => { results := [.lit (.bool false)], args := [d1, d2] }
  | _ => none }
def PredsManyWrongFalsely : Prop := predsManyRow.holds Try.pinned (OpenSpec.ofChange predsManyWrong)

/-- 'envoylaw20.PredsOrder': WHATEVER THE INPUT: true; the input reads as it did. -/
def predsOrderSpec : ChangeSpec := { name := "predsOrder", fn := fun _ => fun
  | [d1, d2, d3] => { results := [.lit (.bool true)], args := [d1, d2, d3] }
  | _ => none }
def predsOrderRow : OpenClaim := { program := "ytfpobiheiloamaa", sum := "f82e082298c216337a7560ec2da37b6fa2447b442071111858813eb321a58d84", func := "envoy/envoylaw20.PredsOrder", spec := "predsOrder", inPlace := ["internal/abi.NoEscape", "internal/bytealg.MakeNoZero"], unfollowed := true, recurses := true, loops := true, apart := false }
def PredsOrderSaid : Prop := predsOrderRow.holds Try.pinned (OpenSpec.ofChange predsOrderSpec)

/-- ITS FALSE NEIGHBOUR: 'it returns false'. Refute it at one input. -/
def predsOrderWrong : ChangeSpec := { name := "predsOrder", fn := fun _ => fun
  | [d1, d2, d3] => { results := [.lit (.bool false)], args := [d1, d2, d3] }
  | _ => none }
def PredsOrderWrongFalsely : Prop := predsOrderRow.holds Try.pinned (OpenSpec.ofChange predsOrderWrong)

/-- 'envoylaw20.PredsOnce': WHATEVER THE INPUT: true; the input reads as it did. -/
def predsOnceSpec : ChangeSpec := { name := "predsOnce", fn := fun _ => fun
  | [d] => { results := [.lit (.bool true)], args := [d] }
  | _ => none }
def predsOnceRow : OpenClaim := { program := "ytfpobiheiloamaa", sum := "f82e082298c216337a7560ec2da37b6fa2447b442071111858813eb321a58d84", func := "envoy/envoylaw20.PredsOnce", spec := "predsOnce", inPlace := ["internal/abi.NoEscape", "internal/bytealg.MakeNoZero"], unfollowed := true, recurses := true, loops := true, apart := false }
def PredsOnceSaid : Prop := predsOnceRow.holds Try.pinned (OpenSpec.ofChange predsOnceSpec)

/-- ITS FALSE NEIGHBOUR: 'it returns false'. Refute it at one input. -/
def predsOnceWrong : ChangeSpec := { name := "predsOnce", fn := fun _ => fun
  | [d] => { results := [.lit (.bool false)], args := [d] }
  | _ => none }
def PredsOnceWrongFalsely : Prop := predsOnceRow.holds Try.pinned (OpenSpec.ofChange predsOnceWrong)

/-- 'envoylaw17.SubstApplies': WHATEVER THE INPUT: true; the input reads as it did. -/
def substAppliesSpec : ChangeSpec := { name := "substApplies", fn := fun _ => fun
  | [d1, d2, d3] => { results := [.lit (.bool true)], args := [d1, d2, d3] }
  | _ => none }
def substAppliesRow : OpenClaim := { program := "ytfpobiheiloamaa", sum := "f82e082298c216337a7560ec2da37b6fa2447b442071111858813eb321a58d84", func := "envoy/envoylaw17.SubstApplies", spec := "substApplies", inPlace := ["slices.overlaps[envoy/api.Pair]", "internal/abi.NoEscape"], unfollowed := true, recurses := true, loops := true, apart := false }
def SubstAppliesSaid : Prop := substAppliesRow.holds Try.pinned (OpenSpec.ofChange substAppliesSpec)

/-- ITS FALSE NEIGHBOUR: 'it returns false'. Refute it at one input. -/
def substAppliesWrong : ChangeSpec := { name := "substApplies", fn := fun _ => fun
  | [d1, d2, d3] => { results := [.lit (.bool false)], args := [d1, d2, d3] }
  | _ => none }
def SubstAppliesWrongFalsely : Prop := substAppliesRow.holds Try.pinned (OpenSpec.ofChange substAppliesWrong)

/-- 'envoylaw17.SubstSets': WHATEVER THE INPUT: true; the input reads as it did. -/
def substSetsSpec : ChangeSpec := { name := "substSets", fn := fun _ => fun
  | [d1, d2, d3] => { results := [.lit (.bool true)], args := [d1, d2, d3] }
  | _ => none }
def substSetsRow : OpenClaim := { program := "ytfpobiheiloamaa", sum := "f82e082298c216337a7560ec2da37b6fa2447b442071111858813eb321a58d84", func := "envoy/envoylaw17.SubstSets", spec := "substSets", inPlace := ["slices.overlaps[envoy/api.Pair]", "internal/abi.NoEscape"], unfollowed := true, recurses := true, loops := true, apart := false }
def SubstSetsSaid : Prop := substSetsRow.holds Try.pinned (OpenSpec.ofChange substSetsSpec)

/-- ITS FALSE NEIGHBOUR: 'it returns false'. Refute it at one input. -/
def substSetsWrong : ChangeSpec := { name := "substSets", fn := fun _ => fun
  | [d1, d2, d3] => { results := [.lit (.bool false)], args := [d1, d2, d3] }
  | _ => none }
def SubstSetsWrongFalsely : Prop := substSetsRow.holds Try.pinned (OpenSpec.ofChange substSetsWrong)

/-- 'envoylaw17.SubstThen': WHATEVER THE INPUT: true; the input reads as it did. -/
def substThenSpec : ChangeSpec := { name := "substThen", fn := fun _ => fun
  | [d1, d2, d3] => { results := [.lit (.bool true)], args := [d1, d2, d3] }
  | _ => none }
def substThenRow : OpenClaim := { program := "ytfpobiheiloamaa", sum := "f82e082298c216337a7560ec2da37b6fa2447b442071111858813eb321a58d84", func := "envoy/envoylaw17.SubstThen", spec := "substThen", inPlace := ["slices.overlaps[envoy/api.Pair]", "internal/abi.NoEscape"], unfollowed := true, recurses := true, loops := true, apart := false }
def SubstThenSaid : Prop := substThenRow.holds Try.pinned (OpenSpec.ofChange substThenSpec)

/-- ITS FALSE NEIGHBOUR: 'it returns false'. Refute it at one input. -/
def substThenWrong : ChangeSpec := { name := "substThen", fn := fun _ => fun
  | [d1, d2, d3] => { results := [.lit (.bool false)], args := [d1, d2, d3] }
  | _ => none }
def SubstThenWrongFalsely : Prop := substThenRow.holds Try.pinned (OpenSpec.ofChange substThenWrong)

/-- 'envoylaw17.SubstNone': WHATEVER THE INPUT: true; the input reads as it did. -/
def substNoneSpec : ChangeSpec := { name := "substNone", fn := fun _ => fun
  | [d1, d2] => { results := [.lit (.bool true)], args := [d1, d2] }
  | _ => none }
def substNoneRow : OpenClaim := { program := "ytfpobiheiloamaa", sum := "f82e082298c216337a7560ec2da37b6fa2447b442071111858813eb321a58d84", func := "envoy/envoylaw17.SubstNone", spec := "substNone", inPlace := ["slices.overlaps[envoy/api.Pair]", "internal/abi.NoEscape"], unfollowed := true, recurses := true, loops := true, apart := false }
def SubstNoneSaid : Prop := substNoneRow.holds Try.pinned (OpenSpec.ofChange substNoneSpec)

/-- ITS FALSE NEIGHBOUR: 'it returns false'. Refute it at one input. -/
def substNoneWrong : ChangeSpec := { name := "substNone", fn := fun _ => fun
  | [d1, d2] => { results := [.lit (.bool false)], args := [d1, d2] }
  | _ => none }
def SubstNoneWrongFalsely : Prop := substNoneRow.holds Try.pinned (OpenSpec.ofChange substNoneWrong)

/-- 'envoylaw17.SubstPreds': WHATEVER THE INPUT: true; the input reads as it did. -/
def substPredsSpec : ChangeSpec := { name := "substPreds", fn := fun _ => fun
  | [d1, d2] => { results := [.lit (.bool true)], args := [d1, d2] }
  | _ => none }
def substPredsRow : OpenClaim := { program := "ytfpobiheiloamaa", sum := "f82e082298c216337a7560ec2da37b6fa2447b442071111858813eb321a58d84", func := "envoy/envoylaw17.SubstPreds", spec := "substPreds", inPlace := ["slices.overlaps[envoy/api.Pair]", "internal/abi.NoEscape"], unfollowed := true, recurses := true, loops := true, apart := false }
def SubstPredsSaid : Prop := substPredsRow.holds Try.pinned (OpenSpec.ofChange substPredsSpec)

/-- ITS FALSE NEIGHBOUR: 'it returns false'. Refute it at one input. -/
def substPredsWrong : ChangeSpec := { name := "substPreds", fn := fun _ => fun
  | [d1, d2] => { results := [.lit (.bool false)], args := [d1, d2] }
  | _ => none }
def SubstPredsWrongFalsely : Prop := substPredsRow.holds Try.pinned (OpenSpec.ofChange substPredsWrong)

/-- 'envoylaw19.MatchMatches': WHATEVER THE INPUT: true; the input reads as it did. -/
def matchMatchesSpec : ChangeSpec := { name := "matchMatches", fn := fun _ => fun
  | [d1, d2] => { results := [.lit (.bool true)], args := [d1, d2] }
  | _ => none }
def matchMatchesRow : OpenClaim := { program := "ytfpobiheiloamaa", sum := "f82e082298c216337a7560ec2da37b6fa2447b442071111858813eb321a58d84", func := "envoy/envoylaw19.MatchMatches", spec := "matchMatches", inPlace := ["internal/bytealg.IndexByteString", "internal/bytealg.IndexString", "internal/abi.NoEscape", "slices.overlaps[envoy/api.Pair]"], unfollowed := true, recurses := true, named := ["internal/bytealg.MaxLen"], loops := true, apart := false }
def MatchMatchesSaid : Prop := matchMatchesRow.holds Try.pinned (OpenSpec.ofChange matchMatchesSpec)

/-- ITS FALSE NEIGHBOUR: 'it returns false'. Refute it at one input. -/
def matchMatchesWrong : ChangeSpec := { name := "matchMatches", fn := fun _ => fun
  | [d1, d2] => { results := [.lit (.bool false)], args := [d1, d2] }
  | _ => none }
def MatchMatchesWrongFalsely : Prop := matchMatchesRow.holds Try.pinned (OpenSpec.ofChange matchMatchesWrong)

/-- 'envoylaw19.MatchAll': WHATEVER THE INPUT: true; the input reads as it did. -/
def matchAllSpec : ChangeSpec := { name := "matchAll", fn := fun _ => fun
  | [d1, d2] => { results := [.lit (.bool true)], args := [d1, d2] }
  | _ => none }
def matchAllRow : OpenClaim := { program := "ytfpobiheiloamaa", sum := "f82e082298c216337a7560ec2da37b6fa2447b442071111858813eb321a58d84", func := "envoy/envoylaw19.MatchAll", spec := "matchAll", inPlace := ["internal/bytealg.IndexByteString", "internal/bytealg.IndexString", "internal/abi.NoEscape", "slices.overlaps[envoy/api.Pair]"], unfollowed := true, recurses := true, named := ["internal/bytealg.MaxLen"], loops := true, apart := false }
def MatchAllSaid : Prop := matchAllRow.holds Try.pinned (OpenSpec.ofChange matchAllSpec)

/-- ITS FALSE NEIGHBOUR: 'it returns false'. Refute it at one input. -/
def matchAllWrong : ChangeSpec := { name := "matchAll", fn := fun _ => fun
  | [d1, d2] => { results := [.lit (.bool false)], args := [d1, d2] }
  | _ => none }
def MatchAllWrongFalsely : Prop := matchAllRow.holds Try.pinned (OpenSpec.ofChange matchAllWrong)

/-- 'envoylaw19.MatchCases': WHATEVER THE INPUT: true; the input reads as it did. -/
def matchCasesSpec : ChangeSpec := { name := "matchCases", fn := fun _ => fun
  | [d1, d2, d3] => { results := [.lit (.bool true)], args := [d1, d2, d3] }
  | _ => none }
def matchCasesRow : OpenClaim := { program := "ytfpobiheiloamaa", sum := "f82e082298c216337a7560ec2da37b6fa2447b442071111858813eb321a58d84", func := "envoy/envoylaw19.MatchCases", spec := "matchCases", inPlace := ["internal/bytealg.IndexByteString", "internal/bytealg.IndexString", "internal/abi.NoEscape", "slices.overlaps[envoy/api.Pair]"], unfollowed := true, recurses := true, named := ["internal/bytealg.MaxLen"], loops := true, apart := false }
def MatchCasesSaid : Prop := matchCasesRow.holds Try.pinned (OpenSpec.ofChange matchCasesSpec)

/-- ITS FALSE NEIGHBOUR: 'it returns false'. Refute it at one input. -/
def matchCasesWrong : ChangeSpec := { name := "matchCases", fn := fun _ => fun
  | [d1, d2, d3] => { results := [.lit (.bool false)], args := [d1, d2, d3] }
  | _ => none }
def MatchCasesWrongFalsely : Prop := matchCasesRow.holds Try.pinned (OpenSpec.ofChange matchCasesWrong)

/-- 'envoylaw19.MatchSame': WHATEVER THE INPUT: true; the input reads as it did. -/
def matchSameSpec : ChangeSpec := { name := "matchSame", fn := fun _ => fun
  | [d1, d2] => { results := [.lit (.bool true)], args := [d1, d2] }
  | _ => none }
def matchSameRow : OpenClaim := { program := "ytfpobiheiloamaa", sum := "f82e082298c216337a7560ec2da37b6fa2447b442071111858813eb321a58d84", func := "envoy/envoylaw19.MatchSame", spec := "matchSame", inPlace := ["internal/bytealg.IndexByteString", "internal/bytealg.IndexString", "internal/abi.NoEscape", "slices.overlaps[envoy/api.Pair]"], unfollowed := true, recurses := true, named := ["internal/bytealg.MaxLen"], loops := true, apart := false }
def MatchSameSaid : Prop := matchSameRow.holds Try.pinned (OpenSpec.ofChange matchSameSpec)

/-- ITS FALSE NEIGHBOUR: 'it returns false'. Refute it at one input. -/
def matchSameWrong : ChangeSpec := { name := "matchSame", fn := fun _ => fun
  | [d1, d2] => { results := [.lit (.bool false)], args := [d1, d2] }
  | _ => none }
def MatchSameWrongFalsely : Prop := matchSameRow.holds Try.pinned (OpenSpec.ofChange matchSameWrong)

/- THE SECOND FORM. 'bulk': how many values and letters a reading holds, each counted each time it is reached (what is shared counts as often as it is met; a slice's spare places count too). A statement '..UptoSaid' is the law's where the arguments, and the package variables that the reading takes, are together of bulk at most 1048576: NARROWER than '..Said'. Prove '..Said' where nothing that the law and all that it calls make is longer than what came in: it says more and counts as full. Else prove '..UptoSaid'. A law counts once. -/
mutual
def uptoBulk {H : Type} : DataW H → Nat
  | .lit (.string bytes) => bytes.length + 1
  | .lit _ => 1
  | .nil => 1
  | .ptr d => uptoBulk d + 1
  | .slice elems spare => uptoBulkAll elems + uptoBulkAll spare + 1
  | .agg parts => uptoBulkAll parts + 1
  | .iface _ d => uptoBulk d + 1
  | .map entries => uptoBulkEntries entries + 1
  | .held _ => 1
def uptoBulkAll {H : Type} : List (DataW H) → Nat
  | [] => 0
  | d :: r => uptoBulk d + uptoBulkAll r
def uptoBulkEntries {H : Type} : List (Lit × DataW H) → Nat
  | [] => 0
  | x :: r => uptoBulkEntry x + uptoBulkEntries r
def uptoBulkEntry {H : Type} : Lit × DataW H → Nat
  | (.string bytes, d) => bytes.length + uptoBulk d + 1
  | (_, d) => uptoBulk d + 1
 end
def uptoSmall : (H : Type) → List (DataW H) → Bool := fun _ ds => decide (uptoBulkAll ds ≤ 1048576)
def OpenSpec.upto (s : _root_.Go.ChangeSpec) : _root_.Go.OpenSpec := { _root_.Go.OpenSpec.ofChange s with cond := some uptoSmall }

/-- 'envoylaw20.PredsMany', WHERE WHAT IT READS IS OF BULK AT MOST 1048576: true; the input reads as it did. -/
def predsManyUptoRow : OpenClaim := { program := "ytfpobiheiloamaa", sum := "f82e082298c216337a7560ec2da37b6fa2447b442071111858813eb321a58d84", func := "envoy/envoylaw20.PredsMany", spec := "predsMany", inPlace := ["internal/abi.NoEscape", "internal/bytealg.MakeNoZero"], unfollowed := true, recurses := true, loops := true, apart := false, narrowed := true }
def PredsManyUptoSaid : Prop := predsManyUptoRow.holds Try.pinned (OpenSpec.upto predsManySpec)

/-- 'envoylaw20.PredsOrder', WHERE WHAT IT READS IS OF BULK AT MOST 1048576: true; the input reads as it did. -/
def predsOrderUptoRow : OpenClaim := { program := "ytfpobiheiloamaa", sum := "f82e082298c216337a7560ec2da37b6fa2447b442071111858813eb321a58d84", func := "envoy/envoylaw20.PredsOrder", spec := "predsOrder", inPlace := ["internal/abi.NoEscape", "internal/bytealg.MakeNoZero"], unfollowed := true, recurses := true, loops := true, apart := false, narrowed := true }
def PredsOrderUptoSaid : Prop := predsOrderUptoRow.holds Try.pinned (OpenSpec.upto predsOrderSpec)

/-- 'envoylaw20.PredsOnce', WHERE WHAT IT READS IS OF BULK AT MOST 1048576: true; the input reads as it did. -/
def predsOnceUptoRow : OpenClaim := { program := "ytfpobiheiloamaa", sum := "f82e082298c216337a7560ec2da37b6fa2447b442071111858813eb321a58d84", func := "envoy/envoylaw20.PredsOnce", spec := "predsOnce", inPlace := ["internal/abi.NoEscape", "internal/bytealg.MakeNoZero"], unfollowed := true, recurses := true, loops := true, apart := false, narrowed := true }
def PredsOnceUptoSaid : Prop := predsOnceUptoRow.holds Try.pinned (OpenSpec.upto predsOnceSpec)

/-- 'envoylaw17.SubstApplies', WHERE WHAT IT READS IS OF BULK AT MOST 1048576: true; the input reads as it did. -/
def substAppliesUptoRow : OpenClaim := { program := "ytfpobiheiloamaa", sum := "f82e082298c216337a7560ec2da37b6fa2447b442071111858813eb321a58d84", func := "envoy/envoylaw17.SubstApplies", spec := "substApplies", inPlace := ["slices.overlaps[envoy/api.Pair]", "internal/abi.NoEscape"], unfollowed := true, recurses := true, loops := true, apart := false, narrowed := true }
def SubstAppliesUptoSaid : Prop := substAppliesUptoRow.holds Try.pinned (OpenSpec.upto substAppliesSpec)

/-- 'envoylaw17.SubstSets', WHERE WHAT IT READS IS OF BULK AT MOST 1048576: true; the input reads as it did. -/
def substSetsUptoRow : OpenClaim := { program := "ytfpobiheiloamaa", sum := "f82e082298c216337a7560ec2da37b6fa2447b442071111858813eb321a58d84", func := "envoy/envoylaw17.SubstSets", spec := "substSets", inPlace := ["slices.overlaps[envoy/api.Pair]", "internal/abi.NoEscape"], unfollowed := true, recurses := true, loops := true, apart := false, narrowed := true }
def SubstSetsUptoSaid : Prop := substSetsUptoRow.holds Try.pinned (OpenSpec.upto substSetsSpec)

/-- 'envoylaw17.SubstThen', WHERE WHAT IT READS IS OF BULK AT MOST 1048576: true; the input reads as it did. -/
def substThenUptoRow : OpenClaim := { program := "ytfpobiheiloamaa", sum := "f82e082298c216337a7560ec2da37b6fa2447b442071111858813eb321a58d84", func := "envoy/envoylaw17.SubstThen", spec := "substThen", inPlace := ["slices.overlaps[envoy/api.Pair]", "internal/abi.NoEscape"], unfollowed := true, recurses := true, loops := true, apart := false, narrowed := true }
def SubstThenUptoSaid : Prop := substThenUptoRow.holds Try.pinned (OpenSpec.upto substThenSpec)

/-- 'envoylaw17.SubstNone', WHERE WHAT IT READS IS OF BULK AT MOST 1048576: true; the input reads as it did. -/
def substNoneUptoRow : OpenClaim := { program := "ytfpobiheiloamaa", sum := "f82e082298c216337a7560ec2da37b6fa2447b442071111858813eb321a58d84", func := "envoy/envoylaw17.SubstNone", spec := "substNone", inPlace := ["slices.overlaps[envoy/api.Pair]", "internal/abi.NoEscape"], unfollowed := true, recurses := true, loops := true, apart := false, narrowed := true }
def SubstNoneUptoSaid : Prop := substNoneUptoRow.holds Try.pinned (OpenSpec.upto substNoneSpec)

/-- 'envoylaw17.SubstPreds', WHERE WHAT IT READS IS OF BULK AT MOST 1048576: true; the input reads as it did. -/
def substPredsUptoRow : OpenClaim := { program := "ytfpobiheiloamaa", sum := "f82e082298c216337a7560ec2da37b6fa2447b442071111858813eb321a58d84", func := "envoy/envoylaw17.SubstPreds", spec := "substPreds", inPlace := ["slices.overlaps[envoy/api.Pair]", "internal/abi.NoEscape"], unfollowed := true, recurses := true, loops := true, apart := false, narrowed := true }
def SubstPredsUptoSaid : Prop := substPredsUptoRow.holds Try.pinned (OpenSpec.upto substPredsSpec)

/-- 'envoylaw19.MatchMatches', WHERE WHAT IT READS IS OF BULK AT MOST 1048576: true; the input reads as it did. -/
def matchMatchesUptoRow : OpenClaim := { program := "ytfpobiheiloamaa", sum := "f82e082298c216337a7560ec2da37b6fa2447b442071111858813eb321a58d84", func := "envoy/envoylaw19.MatchMatches", spec := "matchMatches", inPlace := ["internal/bytealg.IndexByteString", "internal/bytealg.IndexString", "internal/abi.NoEscape", "slices.overlaps[envoy/api.Pair]"], unfollowed := true, recurses := true, named := ["internal/bytealg.MaxLen"], loops := true, apart := false, narrowed := true }
def MatchMatchesUptoSaid : Prop := matchMatchesUptoRow.holds Try.pinned (OpenSpec.upto matchMatchesSpec)

/-- 'envoylaw19.MatchAll', WHERE WHAT IT READS IS OF BULK AT MOST 1048576: true; the input reads as it did. -/
def matchAllUptoRow : OpenClaim := { program := "ytfpobiheiloamaa", sum := "f82e082298c216337a7560ec2da37b6fa2447b442071111858813eb321a58d84", func := "envoy/envoylaw19.MatchAll", spec := "matchAll", inPlace := ["internal/bytealg.IndexByteString", "internal/bytealg.IndexString", "internal/abi.NoEscape", "slices.overlaps[envoy/api.Pair]"], unfollowed := true, recurses := true, named := ["internal/bytealg.MaxLen"], loops := true, apart := false, narrowed := true }
def MatchAllUptoSaid : Prop := matchAllUptoRow.holds Try.pinned (OpenSpec.upto matchAllSpec)

/-- 'envoylaw19.MatchCases', WHERE WHAT IT READS IS OF BULK AT MOST 1048576: true; the input reads as it did. -/
def matchCasesUptoRow : OpenClaim := { program := "ytfpobiheiloamaa", sum := "f82e082298c216337a7560ec2da37b6fa2447b442071111858813eb321a58d84", func := "envoy/envoylaw19.MatchCases", spec := "matchCases", inPlace := ["internal/bytealg.IndexByteString", "internal/bytealg.IndexString", "internal/abi.NoEscape", "slices.overlaps[envoy/api.Pair]"], unfollowed := true, recurses := true, named := ["internal/bytealg.MaxLen"], loops := true, apart := false, narrowed := true }
def MatchCasesUptoSaid : Prop := matchCasesUptoRow.holds Try.pinned (OpenSpec.upto matchCasesSpec)

/-- 'envoylaw19.MatchSame', WHERE WHAT IT READS IS OF BULK AT MOST 1048576: true; the input reads as it did. -/
def matchSameUptoRow : OpenClaim := { program := "ytfpobiheiloamaa", sum := "f82e082298c216337a7560ec2da37b6fa2447b442071111858813eb321a58d84", func := "envoy/envoylaw19.MatchSame", spec := "matchSame", inPlace := ["internal/bytealg.IndexByteString", "internal/bytealg.IndexString", "internal/abi.NoEscape", "slices.overlaps[envoy/api.Pair]"], unfollowed := true, recurses := true, named := ["internal/bytealg.MaxLen"], loops := true, apart := false, narrowed := true }
def MatchSameUptoSaid : Prop := matchSameUptoRow.holds Try.pinned (OpenSpec.upto matchSameSpec)

end Rows
end Go.Proofs.Ytfpobiheiloamaa
