/-
  NARROWER THAN 'FOR EVERY INPUT', by the rows' own cells (each row's printed sentence says how): PrinterWrites: loops · PrinterBack: loops · PrinterDecls: loops.
  DERIVED. THE GIVEN ROWS OF THIS SEAT. 4 by the template 'for every input the law returns true; each argument reads behind the call as it read before'; 0 by the template 'total and deterministic' (their statements: YtlmcofjcpadmiaaGreatTotals.lean).
  GIVEN WITH THE SEED: the statements are not yours to turn. If you find one false, say at which input.
  Laid BY PROGRAM, IN A SANDBOX (cutbox-rows.mjs): the forced cells as the released guide's own fill.sh prints them over the translation ae788be3dc4942d6… (all of the seat's roots in one cut). By AI agents, Wed Nov 11 2026. No macro, syntax, notation, axiom, sorry.
-/
import Derived.Test.YtlmcofjcpadmiaaGreatChecked
import GoSem.Claim
import GoSem.ClaimJoined
import GoSem.ClaimMapViews
import Derived.JoinedTies
import Derived.KernelRfl
namespace Go.Proofs.YtlmcofjcpadmiaaGreat
/- THE CELL 'sum', in the pinned program and in every row, IS THE sha256 OF THE DUMP (.gsa) THAT YtlmcofjcpadmiaaGreatProg.lean LOADS. Nothing in Lean hashes anything: it is a label: what it is worth is what the hold of that sum in a sandbox is worth. -/
noncomputable def Tryz.pinned : Pinned := { name := "ytlmcofjcpadmiaagreat", sum := "ae788be3dc4942d6ec67371debc7909e13a1302e53388e2cd4be62a5e388eaae", checked := Tryz.checked }
namespace Rows
def none {H : Type} : Left H := { results := [], args := [] }

/-- 'envoylaw11.PrinterWrites': WHATEVER THE INPUT: true; the input reads as it did. -/
def printerWritesSpec : ChangeSpec := { name := "printerWrites", fn := fun _ => fun
  | [d] => { results := [.lit (.bool true)], args := [d] }
  | _ => none }
def printerWritesRow : OpenClaim := { program := "ytlmcofjcpadmiaagreat", sum := "ae788be3dc4942d6ec67371debc7909e13a1302e53388e2cd4be62a5e388eaae", func := "envoy/envoylaw11.PrinterWrites", spec := "printerWrites", inPlace := ["internal/abi.NoEscape", "internal/bytealg.MakeNoZero"], unfollowed := true, recurses := true, loops := true, apart := false }
def PrinterWritesSaid : Prop := printerWritesRow.holds Tryz.pinned (OpenSpec.ofChange printerWritesSpec)

/-- ITS FALSE NEIGHBOUR: 'it returns false'. Refute it at one input. -/
def printerWritesWrong : ChangeSpec := { name := "printerWrites", fn := fun _ => fun
  | [d] => { results := [.lit (.bool false)], args := [d] }
  | _ => none }
def PrinterWritesWrongFalsely : Prop := printerWritesRow.holds Tryz.pinned (OpenSpec.ofChange printerWritesWrong)

/-- 'envoylaw11.PrinterBack': WHATEVER THE INPUT: true; the input reads as it did. -/
def printerBackSpec : ChangeSpec := { name := "printerBack", fn := fun _ => fun
  | [d] => { results := [.lit (.bool true)], args := [d] }
  | _ => none }
def printerBackRow : OpenClaim := { program := "ytlmcofjcpadmiaagreat", sum := "ae788be3dc4942d6ec67371debc7909e13a1302e53388e2cd4be62a5e388eaae", func := "envoy/envoylaw11.PrinterBack", spec := "printerBack", inPlace := ["internal/abi.NoEscape", "internal/bytealg.MakeNoZero"], unfollowed := true, recurses := true, loops := true, apart := false }
def PrinterBackSaid : Prop := printerBackRow.holds Tryz.pinned (OpenSpec.ofChange printerBackSpec)

/-- ITS FALSE NEIGHBOUR: 'it returns false'. Refute it at one input. -/
def printerBackWrong : ChangeSpec := { name := "printerBack", fn := fun _ => fun
  | [d] => { results := [.lit (.bool false)], args := [d] }
  | _ => none }
def PrinterBackWrongFalsely : Prop := printerBackRow.holds Tryz.pinned (OpenSpec.ofChange printerBackWrong)

/-- 'envoylaw11.PrinterOnce': WHATEVER THE INPUT: true; the input reads as it did. -/
def printerOnceSpec : ChangeSpec := { name := "printerOnce", fn := fun _ => fun
  | [d] => { results := [.lit (.bool true)], args := [d] }
  | _ => none }
def printerOnceRow : OpenClaim := { program := "ytlmcofjcpadmiaagreat", sum := "ae788be3dc4942d6ec67371debc7909e13a1302e53388e2cd4be62a5e388eaae", func := "envoy/envoylaw11.PrinterOnce", spec := "printerOnce", inPlace := ["internal/abi.NoEscape", "internal/bytealg.MakeNoZero"], unfollowed := true, recurses := true, apart := false }
def PrinterOnceSaid : Prop := printerOnceRow.holds Tryz.pinned (OpenSpec.ofChange printerOnceSpec)

/-- ITS FALSE NEIGHBOUR: 'it returns false'. Refute it at one input. -/
def printerOnceWrong : ChangeSpec := { name := "printerOnce", fn := fun _ => fun
  | [d] => { results := [.lit (.bool false)], args := [d] }
  | _ => none }
def PrinterOnceWrongFalsely : Prop := printerOnceRow.holds Tryz.pinned (OpenSpec.ofChange printerOnceWrong)

/-- 'envoylaw11.PrinterDecls': WHATEVER THE INPUT: true; the input reads as it did. -/
def printerDeclsSpec : ChangeSpec := { name := "printerDecls", fn := fun _ => fun
  | [d] => { results := [.lit (.bool true)], args := [d] }
  | _ => none }
def printerDeclsRow : OpenClaim := { program := "ytlmcofjcpadmiaagreat", sum := "ae788be3dc4942d6ec67371debc7909e13a1302e53388e2cd4be62a5e388eaae", func := "envoy/envoylaw11.PrinterDecls", spec := "printerDecls", inPlace := ["internal/abi.NoEscape", "internal/bytealg.MakeNoZero"], unfollowed := true, recurses := true, loops := true, apart := false }
def PrinterDeclsSaid : Prop := printerDeclsRow.holds Tryz.pinned (OpenSpec.ofChange printerDeclsSpec)

/-- ITS FALSE NEIGHBOUR: 'it returns false'. Refute it at one input. -/
def printerDeclsWrong : ChangeSpec := { name := "printerDecls", fn := fun _ => fun
  | [d] => { results := [.lit (.bool false)], args := [d] }
  | _ => none }
def PrinterDeclsWrongFalsely : Prop := printerDeclsRow.holds Tryz.pinned (OpenSpec.ofChange printerDeclsWrong)

/- THE SECOND FORM. 'bulk': how many values and letters a reading holds, each counted each time it is reached (what is shared counts as often as it is met; a slice's spare places count too). A statement '..UptoSaid' is the law's where the arguments, and the package variables that the reading takes, are together of bulk at most 1048576: NARROWER than '..Said'. Prove '..Said' where nothing that the law and all that it calls make is longer than what came in: it says more and counts as full. Else prove '..UptoSaid'. A law counts once. -/
mutual
def uptoBulk {H : Type} : DataW H → Nat
  | .lit (.string bytes) => bytes.length + 1
  | .lit _ => 1
  | .nil => 1
  | .ptr d => uptoBulk d + 1
  | .slice elems spare => uptoBulkAll elems + uptoBulkAll spare + 1
  | .agg parts => uptoBulkAll parts + 1
  | .iface _ d => uptoBulk d + 1
  | .map entries => uptoBulkEntries entries + 1
  | .held _ => 1
def uptoBulkAll {H : Type} : List (DataW H) → Nat
  | [] => 0
  | d :: r => uptoBulk d + uptoBulkAll r
def uptoBulkEntries {H : Type} : List (Lit × DataW H) → Nat
  | [] => 0
  | x :: r => uptoBulkEntry x + uptoBulkEntries r
def uptoBulkEntry {H : Type} : Lit × DataW H → Nat
  | (.string bytes, d) => bytes.length + uptoBulk d + 1
  | (_, d) => uptoBulk d + 1
 end
def uptoSmall : (H : Type) → List (DataW H) → Bool := fun _ ds => decide (uptoBulkAll ds ≤ 1048576)
def OpenSpec.upto (s : _root_.Go.ChangeSpec) : _root_.Go.OpenSpec := { _root_.Go.OpenSpec.ofChange s with cond := some uptoSmall }

/-- 'envoylaw11.PrinterWrites', WHERE WHAT IT READS IS OF BULK AT MOST 1048576: true; the input reads as it did. -/
def printerWritesUptoRow : OpenClaim := { program := "ytlmcofjcpadmiaagreat", sum := "ae788be3dc4942d6ec67371debc7909e13a1302e53388e2cd4be62a5e388eaae", func := "envoy/envoylaw11.PrinterWrites", spec := "printerWrites", inPlace := ["internal/abi.NoEscape", "internal/bytealg.MakeNoZero"], unfollowed := true, recurses := true, loops := true, apart := false, narrowed := true }
def PrinterWritesUptoSaid : Prop := printerWritesUptoRow.holds Tryz.pinned (OpenSpec.upto printerWritesSpec)

/-- 'envoylaw11.PrinterBack', WHERE WHAT IT READS IS OF BULK AT MOST 1048576: true; the input reads as it did. -/
def printerBackUptoRow : OpenClaim := { program := "ytlmcofjcpadmiaagreat", sum := "ae788be3dc4942d6ec67371debc7909e13a1302e53388e2cd4be62a5e388eaae", func := "envoy/envoylaw11.PrinterBack", spec := "printerBack", inPlace := ["internal/abi.NoEscape", "internal/bytealg.MakeNoZero"], unfollowed := true, recurses := true, loops := true, apart := false, narrowed := true }
def PrinterBackUptoSaid : Prop := printerBackUptoRow.holds Tryz.pinned (OpenSpec.upto printerBackSpec)

/-- 'envoylaw11.PrinterOnce', WHERE WHAT IT READS IS OF BULK AT MOST 1048576: true; the input reads as it did. -/
def printerOnceUptoRow : OpenClaim := { program := "ytlmcofjcpadmiaagreat", sum := "ae788be3dc4942d6ec67371debc7909e13a1302e53388e2cd4be62a5e388eaae", func := "envoy/envoylaw11.PrinterOnce", spec := "printerOnce", inPlace := ["internal/abi.NoEscape", "internal/bytealg.MakeNoZero"], unfollowed := true, recurses := true, apart := false, narrowed := true }
def PrinterOnceUptoSaid : Prop := printerOnceUptoRow.holds Tryz.pinned (OpenSpec.upto printerOnceSpec)

/-- 'envoylaw11.PrinterDecls', WHERE WHAT IT READS IS OF BULK AT MOST 1048576: true; the input reads as it did. -/
def printerDeclsUptoRow : OpenClaim := { program := "ytlmcofjcpadmiaagreat", sum := "ae788be3dc4942d6ec67371debc7909e13a1302e53388e2cd4be62a5e388eaae", func := "envoy/envoylaw11.PrinterDecls", spec := "printerDecls", inPlace := ["internal/abi.NoEscape", "internal/bytealg.MakeNoZero"], unfollowed := true, recurses := true, loops := true, apart := false, narrowed := true }
def PrinterDeclsUptoSaid : Prop := printerDeclsUptoRow.holds Tryz.pinned (OpenSpec.upto printerDeclsSpec)

end Rows
end Go.Proofs.YtlmcofjcpadmiaaGreat
