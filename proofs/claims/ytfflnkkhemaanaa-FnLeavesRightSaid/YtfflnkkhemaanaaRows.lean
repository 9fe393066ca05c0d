/-
  No cell of these rows narrows 'for every input' (looked for: loops, veiled, ifaces, maps, wideKeys, modest, calm, conditions, laid).
  DERIVED. THE GIVEN ROWS OF THIS SEAT. 7 by the template 'for every input the law returns true; each argument reads behind the call as it read before'; 0 by the template 'total and deterministic' (their statements: YtfflnkkhemaanaaTotals.lean).
  GIVEN WITH THE SEED: the statements are not yours to turn. If you find one false, say at which input.
  Laid BY PROGRAM, IN A SANDBOX (cutbox-rows.mjs): the forced cells as the released guide's own fill.sh prints them over the translation 7c396b2b6230dcb2… (all of the seat's roots in one cut). By AI agents, Wed Nov 11 2026. No macro, syntax, notation, axiom, sorry.
-/
import Derived.Test.YtfflnkkhemaanaaChecked
import GoSem.Claim
import GoSem.ClaimJoined
import GoSem.ClaimMapViews
import Derived.JoinedTies
import Derived.KernelRfl
namespace Go.Proofs.Ytfflnkkhemaanaa
/- THE CELL 'sum', in the pinned program and in every row, IS THE sha256 OF THE DUMP (.gsa) THAT YtfflnkkhemaanaaProg.lean LOADS. Nothing in Lean hashes anything: it is a label: what it is worth is what the hold of that sum in a sandbox is worth. -/
noncomputable def Try.pinned : Pinned := { name := "ytfflnkkhemaanaa", sum := "7c396b2b6230dcb23f4d9872bded72f5e666d30ebb709d7c2603b59b3d2d9496", checked := Try.checked }
namespace Rows
def none {H : Type} : Left H := { results := [], args := [] }

/-- 'laws.FnLeafHeight': WHATEVER THE INPUT: true; the input reads as it did. -/
def fnLeafHeightSpec : ChangeSpec := { name := "fnLeafHeight", fn := fun _ => fun
  | [d] => { results := [.lit (.bool true)], args := [d] }
  | _ => none }
def fnLeafHeightRow : OpenClaim := { program := "ytfflnkkhemaanaa", sum := "7c396b2b6230dcb23f4d9872bded72f5e666d30ebb709d7c2603b59b3d2d9496", func := "loop.example/pagebuilder/laws.FnLeafHeight", spec := "fnLeafHeight", apart := false }
def FnLeafHeightSaid : Prop := fnLeafHeightRow.holds Try.pinned (OpenSpec.ofChange fnLeafHeightSpec)

/-- ITS FALSE NEIGHBOUR: 'it returns false'. Refute it at one input. -/
def fnLeafHeightWrong : ChangeSpec := { name := "fnLeafHeight", fn := fun _ => fun
  | [d] => { results := [.lit (.bool false)], args := [d] }
  | _ => none }
def FnLeafHeightWrongFalsely : Prop := fnLeafHeightRow.holds Try.pinned (OpenSpec.ofChange fnLeafHeightWrong)

/-- 'laws.FnExactLeafHeight': WHATEVER THE INPUT: true; the input reads as it did. -/
def fnExactLeafHeightSpec : ChangeSpec := { name := "fnExactLeafHeight", fn := fun _ => fun
  | [d1, d2] => { results := [.lit (.bool true)], args := [d1, d2] }
  | _ => none }
def fnExactLeafHeightRow : OpenClaim := { program := "ytfflnkkhemaanaa", sum := "7c396b2b6230dcb23f4d9872bded72f5e666d30ebb709d7c2603b59b3d2d9496", func := "loop.example/pagebuilder/laws.FnExactLeafHeight", spec := "fnExactLeafHeight", apart := false }
def FnExactLeafHeightSaid : Prop := fnExactLeafHeightRow.holds Try.pinned (OpenSpec.ofChange fnExactLeafHeightSpec)

/-- ITS FALSE NEIGHBOUR: 'it returns false'. Refute it at one input. -/
def fnExactLeafHeightWrong : ChangeSpec := { name := "fnExactLeafHeight", fn := fun _ => fun
  | [d1, d2] => { results := [.lit (.bool false)], args := [d1, d2] }
  | _ => none }
def FnExactLeafHeightWrongFalsely : Prop := fnExactLeafHeightRow.holds Try.pinned (OpenSpec.ofChange fnExactLeafHeightWrong)

/-- 'laws.FnLeavesPlain': WHATEVER THE INPUT: true; the input reads as it did. -/
def fnLeavesPlainSpec : ChangeSpec := { name := "fnLeavesPlain", fn := fun _ => fun
  | [d] => { results := [.lit (.bool true)], args := [d] }
  | _ => none }
def fnLeavesPlainRow : OpenClaim := { program := "ytfflnkkhemaanaa", sum := "7c396b2b6230dcb23f4d9872bded72f5e666d30ebb709d7c2603b59b3d2d9496", func := "loop.example/pagebuilder/laws.FnLeavesPlain", spec := "fnLeavesPlain", apart := false }
def FnLeavesPlainSaid : Prop := fnLeavesPlainRow.holds Try.pinned (OpenSpec.ofChange fnLeavesPlainSpec)

/-- ITS FALSE NEIGHBOUR: 'it returns false'. Refute it at one input. -/
def fnLeavesPlainWrong : ChangeSpec := { name := "fnLeavesPlain", fn := fun _ => fun
  | [d] => { results := [.lit (.bool false)], args := [d] }
  | _ => none }
def FnLeavesPlainWrongFalsely : Prop := fnLeavesPlainRow.holds Try.pinned (OpenSpec.ofChange fnLeavesPlainWrong)

/-- 'laws.FnLeavesRight': WHATEVER THE INPUT: true; the input reads as it did. -/
def fnLeavesRightSpec : ChangeSpec := { name := "fnLeavesRight", fn := fun _ => fun
  | [d] => { results := [.lit (.bool true)], args := [d] }
  | _ => none }
def fnLeavesRightRow : OpenClaim := { program := "ytfflnkkhemaanaa", sum := "7c396b2b6230dcb23f4d9872bded72f5e666d30ebb709d7c2603b59b3d2d9496", func := "loop.example/pagebuilder/laws.FnLeavesRight", spec := "fnLeavesRight", apart := false }
def FnLeavesRightSaid : Prop := fnLeavesRightRow.holds Try.pinned (OpenSpec.ofChange fnLeavesRightSpec)

/-- ITS FALSE NEIGHBOUR: 'it returns false'. Refute it at one input. -/
def fnLeavesRightWrong : ChangeSpec := { name := "fnLeavesRight", fn := fun _ => fun
  | [d] => { results := [.lit (.bool false)], args := [d] }
  | _ => none }
def FnLeavesRightWrongFalsely : Prop := fnLeavesRightRow.holds Try.pinned (OpenSpec.ofChange fnLeavesRightWrong)

/-- 'laws.FnExactLeavesRight': WHATEVER THE INPUT: true; the input reads as it did. -/
def fnExactLeavesRightSpec : ChangeSpec := { name := "fnExactLeavesRight", fn := fun _ => fun
  | [d1, d2, d3] => { results := [.lit (.bool true)], args := [d1, d2, d3] }
  | _ => none }
def fnExactLeavesRightRow : OpenClaim := { program := "ytfflnkkhemaanaa", sum := "7c396b2b6230dcb23f4d9872bded72f5e666d30ebb709d7c2603b59b3d2d9496", func := "loop.example/pagebuilder/laws.FnExactLeavesRight", spec := "fnExactLeavesRight", apart := false }
def FnExactLeavesRightSaid : Prop := fnExactLeavesRightRow.holds Try.pinned (OpenSpec.ofChange fnExactLeavesRightSpec)

/-- ITS FALSE NEIGHBOUR: 'it returns false'. Refute it at one input. -/
def fnExactLeavesRightWrong : ChangeSpec := { name := "fnExactLeavesRight", fn := fun _ => fun
  | [d1, d2, d3] => { results := [.lit (.bool false)], args := [d1, d2, d3] }
  | _ => none }
def FnExactLeavesRightWrongFalsely : Prop := fnExactLeavesRightRow.holds Try.pinned (OpenSpec.ofChange fnExactLeavesRightWrong)

/-- 'laws.FnMakeLeaves': WHATEVER THE INPUT: true; the input reads as it did. -/
def fnMakeLeavesSpec : ChangeSpec := { name := "fnMakeLeaves", fn := fun _ => fun
  | [d] => { results := [.lit (.bool true)], args := [d] }
  | _ => none }
def fnMakeLeavesRow : OpenClaim := { program := "ytfflnkkhemaanaa", sum := "7c396b2b6230dcb23f4d9872bded72f5e666d30ebb709d7c2603b59b3d2d9496", func := "loop.example/pagebuilder/laws.FnMakeLeaves", spec := "fnMakeLeaves", apart := false }
def FnMakeLeavesSaid : Prop := fnMakeLeavesRow.holds Try.pinned (OpenSpec.ofChange fnMakeLeavesSpec)

/-- ITS FALSE NEIGHBOUR: 'it returns false'. Refute it at one input. -/
def fnMakeLeavesWrong : ChangeSpec := { name := "fnMakeLeaves", fn := fun _ => fun
  | [d] => { results := [.lit (.bool false)], args := [d] }
  | _ => none }
def FnMakeLeavesWrongFalsely : Prop := fnMakeLeavesRow.holds Try.pinned (OpenSpec.ofChange fnMakeLeavesWrong)

/-- 'laws.FnExactMakeLeaves': WHATEVER THE INPUT: true; the input reads as it did. -/
def fnExactMakeLeavesSpec : ChangeSpec := { name := "fnExactMakeLeaves", fn := fun _ => fun
  | [d1, d2] => { results := [.lit (.bool true)], args := [d1, d2] }
  | _ => none }
def fnExactMakeLeavesRow : OpenClaim := { program := "ytfflnkkhemaanaa", sum := "7c396b2b6230dcb23f4d9872bded72f5e666d30ebb709d7c2603b59b3d2d9496", func := "loop.example/pagebuilder/laws.FnExactMakeLeaves", spec := "fnExactMakeLeaves", apart := false }
def FnExactMakeLeavesSaid : Prop := fnExactMakeLeavesRow.holds Try.pinned (OpenSpec.ofChange fnExactMakeLeavesSpec)

/-- ITS FALSE NEIGHBOUR: 'it returns false'. Refute it at one input. -/
def fnExactMakeLeavesWrong : ChangeSpec := { name := "fnExactMakeLeaves", fn := fun _ => fun
  | [d1, d2] => { results := [.lit (.bool false)], args := [d1, d2] }
  | _ => none }
def FnExactMakeLeavesWrongFalsely : Prop := fnExactMakeLeavesRow.holds Try.pinned (OpenSpec.ofChange fnExactMakeLeavesWrong)

/- THE SECOND FORM. 'bulk': how many values and letters a reading holds, each counted each time it is reached (what is shared counts as often as it is met; a slice's spare places count too). A statement '..UptoSaid' is the law's where the arguments, and the package variables that the reading takes, are together of bulk at most 1048576: NARROWER than '..Said'. Prove '..Said' where nothing that the law and all that it calls make is longer than what came in: it says more and counts as full. Else prove '..UptoSaid'. A law counts once. -/
mutual
def uptoBulk {H : Type} : DataW H → Nat
  | .lit (.string bytes) => bytes.length + 1
  | .lit _ => 1
  | .nil => 1
  | .ptr d => uptoBulk d + 1
  | .slice elems spare => uptoBulkAll elems + uptoBulkAll spare + 1
  | .agg parts => uptoBulkAll parts + 1
  | .iface _ d => uptoBulk d + 1
  | .map entries => uptoBulkEntries entries + 1
  | .held _ => 1
def uptoBulkAll {H : Type} : List (DataW H) → Nat
  | [] => 0
  | d :: r => uptoBulk d + uptoBulkAll r
def uptoBulkEntries {H : Type} : List (Lit × DataW H) → Nat
  | [] => 0
  | x :: r => uptoBulkEntry x + uptoBulkEntries r
def uptoBulkEntry {H : Type} : Lit × DataW H → Nat
  | (.string bytes, d) => bytes.length + uptoBulk d + 1
  | (_, d) => uptoBulk d + 1
 end
def uptoSmall : (H : Type) → List (DataW H) → Bool := fun _ ds => decide (uptoBulkAll ds ≤ 1048576)
def OpenSpec.upto (s : _root_.Go.ChangeSpec) : _root_.Go.OpenSpec := { _root_.Go.OpenSpec.ofChange s with cond := some uptoSmall }

/-- 'laws.FnLeafHeight', WHERE WHAT IT READS IS OF BULK AT MOST 1048576: true; the input reads as it did. -/
def fnLeafHeightUptoRow : OpenClaim := { program := "ytfflnkkhemaanaa", sum := "7c396b2b6230dcb23f4d9872bded72f5e666d30ebb709d7c2603b59b3d2d9496", func := "loop.example/pagebuilder/laws.FnLeafHeight", spec := "fnLeafHeight", apart := false, narrowed := true }
def FnLeafHeightUptoSaid : Prop := fnLeafHeightUptoRow.holds Try.pinned (OpenSpec.upto fnLeafHeightSpec)

/-- 'laws.FnExactLeafHeight', WHERE WHAT IT READS IS OF BULK AT MOST 1048576: true; the input reads as it did. -/
def fnExactLeafHeightUptoRow : OpenClaim := { program := "ytfflnkkhemaanaa", sum := "7c396b2b6230dcb23f4d9872bded72f5e666d30ebb709d7c2603b59b3d2d9496", func := "loop.example/pagebuilder/laws.FnExactLeafHeight", spec := "fnExactLeafHeight", apart := false, narrowed := true }
def FnExactLeafHeightUptoSaid : Prop := fnExactLeafHeightUptoRow.holds Try.pinned (OpenSpec.upto fnExactLeafHeightSpec)

/-- 'laws.FnLeavesPlain', WHERE WHAT IT READS IS OF BULK AT MOST 1048576: true; the input reads as it did. -/
def fnLeavesPlainUptoRow : OpenClaim := { program := "ytfflnkkhemaanaa", sum := "7c396b2b6230dcb23f4d9872bded72f5e666d30ebb709d7c2603b59b3d2d9496", func := "loop.example/pagebuilder/laws.FnLeavesPlain", spec := "fnLeavesPlain", apart := false, narrowed := true }
def FnLeavesPlainUptoSaid : Prop := fnLeavesPlainUptoRow.holds Try.pinned (OpenSpec.upto fnLeavesPlainSpec)

/-- 'laws.FnLeavesRight', WHERE WHAT IT READS IS OF BULK AT MOST 1048576: true; the input reads as it did. -/
def fnLeavesRightUptoRow : OpenClaim := { program := "ytfflnkkhemaanaa", sum := "7c396b2b6230dcb23f4d9872bded72f5e666d30ebb709d7c2603b59b3d2d9496", func := "loop.example/pagebuilder/laws.FnLeavesRight", spec := "fnLeavesRight", apart := false, narrowed := true }
def FnLeavesRightUptoSaid : Prop := fnLeavesRightUptoRow.holds Try.pinned (OpenSpec.upto fnLeavesRightSpec)

/-- 'laws.FnExactLeavesRight', WHERE WHAT IT READS IS OF BULK AT MOST 1048576: true; the input reads as it did. -/
def fnExactLeavesRightUptoRow : OpenClaim := { program := "ytfflnkkhemaanaa", sum := "7c396b2b6230dcb23f4d9872bded72f5e666d30ebb709d7c2603b59b3d2d9496", func := "loop.example/pagebuilder/laws.FnExactLeavesRight", spec := "fnExactLeavesRight", apart := false, narrowed := true }
def FnExactLeavesRightUptoSaid : Prop := fnExactLeavesRightUptoRow.holds Try.pinned (OpenSpec.upto fnExactLeavesRightSpec)

/-- 'laws.FnMakeLeaves', WHERE WHAT IT READS IS OF BULK AT MOST 1048576: true; the input reads as it did. -/
def fnMakeLeavesUptoRow : OpenClaim := { program := "ytfflnkkhemaanaa", sum := "7c396b2b6230dcb23f4d9872bded72f5e666d30ebb709d7c2603b59b3d2d9496", func := "loop.example/pagebuilder/laws.FnMakeLeaves", spec := "fnMakeLeaves", apart := false, narrowed := true }
def FnMakeLeavesUptoSaid : Prop := fnMakeLeavesUptoRow.holds Try.pinned (OpenSpec.upto fnMakeLeavesSpec)

/-- 'laws.FnExactMakeLeaves', WHERE WHAT IT READS IS OF BULK AT MOST 1048576: true; the input reads as it did. -/
def fnExactMakeLeavesUptoRow : OpenClaim := { program := "ytfflnkkhemaanaa", sum := "7c396b2b6230dcb23f4d9872bded72f5e666d30ebb709d7c2603b59b3d2d9496", func := "loop.example/pagebuilder/laws.FnExactMakeLeaves", spec := "fnExactMakeLeaves", apart := false, narrowed := true }
def FnExactMakeLeavesUptoSaid : Prop := fnExactMakeLeavesUptoRow.holds Try.pinned (OpenSpec.upto fnExactMakeLeavesSpec)

end Rows
end Go.Proofs.Ytfflnkkhemaanaa
