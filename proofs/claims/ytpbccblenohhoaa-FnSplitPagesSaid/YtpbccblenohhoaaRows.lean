/-
  No cell of these rows narrows 'for every input' (looked for: loops, veiled, ifaces, maps, wideKeys, modest, calm, conditions, laid).
  DERIVED. THE GIVEN ROWS OF THIS SEAT. 8 by the template 'for every input the law returns true; each argument reads behind the call as it read before'; 0 by the template 'total and deterministic' (their statements: YtpbccblenohhoaaTotals.lean).
  GIVEN WITH THE SEED: the statements are not yours to turn. If you find one false, say at which input.
  Laid BY PROGRAM, IN A SANDBOX (cutbox-rows.mjs): the forced cells as the released guide's own fill.sh prints them over the translation d3c930aaeb31e6fc… (all of the seat's roots in one cut). By AI agents, Wed Nov 11 2026. No macro, syntax, notation, axiom, sorry.
-/
import Derived.Test.YtpbccblenohhoaaChecked
import GoSem.Claim
import GoSem.ClaimJoined
import GoSem.ClaimMapViews
import Derived.JoinedTies
import Derived.KernelRfl
namespace Go.Proofs.Ytpbccblenohhoaa
/- THE CELL 'sum', in the pinned program and in every row, IS THE sha256 OF THE DUMP (.gsa) THAT YtpbccblenohhoaaProg.lean LOADS. Nothing in Lean hashes anything: it is a label: what it is worth is what the hold of that sum in a sandbox is worth. -/
noncomputable def Try.pinned : Pinned := { name := "ytpbccblenohhoaa", sum := "d3c930aaeb31e6fcedf33ead0bcba6f04fee76a69f8058c2c9a09bf11f6732ea", checked := Try.checked }
namespace Rows
def none {H : Type} : Left H := { results := [], args := [] }

/-- 'laws.FnExactPagesCost': WHATEVER THE INPUT: true; the input reads as it did. -/
def fnExactPagesCostSpec : ChangeSpec := { name := "fnExactPagesCost", fn := fun _ => fun
  | [d1, d2, d3] => { results := [.lit (.bool true)], args := [d1, d2, d3] }
  | _ => none }
def fnExactPagesCostRow : OpenClaim := { program := "ytpbccblenohhoaa", sum := "d3c930aaeb31e6fcedf33ead0bcba6f04fee76a69f8058c2c9a09bf11f6732ea", func := "loop.example/pagebuilder/laws.FnExactPagesCost", spec := "fnExactPagesCost", apart := false }
def FnExactPagesCostSaid : Prop := fnExactPagesCostRow.holds Try.pinned (OpenSpec.ofChange fnExactPagesCostSpec)

/-- ITS FALSE NEIGHBOUR: 'it returns false'. Refute it at one input. -/
def fnExactPagesCostWrong : ChangeSpec := { name := "fnExactPagesCost", fn := fun _ => fun
  | [d1, d2, d3] => { results := [.lit (.bool false)], args := [d1, d2, d3] }
  | _ => none }
def FnExactPagesCostWrongFalsely : Prop := fnExactPagesCostRow.holds Try.pinned (OpenSpec.ofChange fnExactPagesCostWrong)

/-- 'laws.FnPagesCost': WHATEVER THE INPUT: true; the input reads as it did. -/
def fnPagesCostSpec : ChangeSpec := { name := "fnPagesCost", fn := fun _ => fun
  | [d] => { results := [.lit (.bool true)], args := [d] }
  | _ => none }
def fnPagesCostRow : OpenClaim := { program := "ytpbccblenohhoaa", sum := "d3c930aaeb31e6fcedf33ead0bcba6f04fee76a69f8058c2c9a09bf11f6732ea", func := "loop.example/pagebuilder/laws.FnPagesCost", spec := "fnPagesCost", apart := false }
def FnPagesCostSaid : Prop := fnPagesCostRow.holds Try.pinned (OpenSpec.ofChange fnPagesCostSpec)

/-- ITS FALSE NEIGHBOUR: 'it returns false'. Refute it at one input. -/
def fnPagesCostWrong : ChangeSpec := { name := "fnPagesCost", fn := fun _ => fun
  | [d] => { results := [.lit (.bool false)], args := [d] }
  | _ => none }
def FnPagesCostWrongFalsely : Prop := fnPagesCostRow.holds Try.pinned (OpenSpec.ofChange fnPagesCostWrong)

/-- 'laws.FnExactFirstPages': WHATEVER THE INPUT: true; the input reads as it did. -/
def fnExactFirstPagesSpec : ChangeSpec := { name := "fnExactFirstPages", fn := fun _ => fun
  | [d1, d2] => { results := [.lit (.bool true)], args := [d1, d2] }
  | _ => none }
def fnExactFirstPagesRow : OpenClaim := { program := "ytpbccblenohhoaa", sum := "d3c930aaeb31e6fcedf33ead0bcba6f04fee76a69f8058c2c9a09bf11f6732ea", func := "loop.example/pagebuilder/laws.FnExactFirstPages", spec := "fnExactFirstPages", apart := false }
def FnExactFirstPagesSaid : Prop := fnExactFirstPagesRow.holds Try.pinned (OpenSpec.ofChange fnExactFirstPagesSpec)

/-- ITS FALSE NEIGHBOUR: 'it returns false'. Refute it at one input. -/
def fnExactFirstPagesWrong : ChangeSpec := { name := "fnExactFirstPages", fn := fun _ => fun
  | [d1, d2] => { results := [.lit (.bool false)], args := [d1, d2] }
  | _ => none }
def FnExactFirstPagesWrongFalsely : Prop := fnExactFirstPagesRow.holds Try.pinned (OpenSpec.ofChange fnExactFirstPagesWrong)

/-- 'laws.FnFirstPages': WHATEVER THE INPUT: true; the input reads as it did. -/
def fnFirstPagesSpec : ChangeSpec := { name := "fnFirstPages", fn := fun _ => fun
  | [d] => { results := [.lit (.bool true)], args := [d] }
  | _ => none }
def fnFirstPagesRow : OpenClaim := { program := "ytpbccblenohhoaa", sum := "d3c930aaeb31e6fcedf33ead0bcba6f04fee76a69f8058c2c9a09bf11f6732ea", func := "loop.example/pagebuilder/laws.FnFirstPages", spec := "fnFirstPages", apart := false }
def FnFirstPagesSaid : Prop := fnFirstPagesRow.holds Try.pinned (OpenSpec.ofChange fnFirstPagesSpec)

/-- ITS FALSE NEIGHBOUR: 'it returns false'. Refute it at one input. -/
def fnFirstPagesWrong : ChangeSpec := { name := "fnFirstPages", fn := fun _ => fun
  | [d] => { results := [.lit (.bool false)], args := [d] }
  | _ => none }
def FnFirstPagesWrongFalsely : Prop := fnFirstPagesRow.holds Try.pinned (OpenSpec.ofChange fnFirstPagesWrong)

/-- 'laws.FnExactBestPages': WHATEVER THE INPUT: true; the input reads as it did. -/
def fnExactBestPagesSpec : ChangeSpec := { name := "fnExactBestPages", fn := fun _ => fun
  | [d1, d2] => { results := [.lit (.bool true)], args := [d1, d2] }
  | _ => none }
def fnExactBestPagesRow : OpenClaim := { program := "ytpbccblenohhoaa", sum := "d3c930aaeb31e6fcedf33ead0bcba6f04fee76a69f8058c2c9a09bf11f6732ea", func := "loop.example/pagebuilder/laws.FnExactBestPages", spec := "fnExactBestPages", apart := false }
def FnExactBestPagesSaid : Prop := fnExactBestPagesRow.holds Try.pinned (OpenSpec.ofChange fnExactBestPagesSpec)

/-- ITS FALSE NEIGHBOUR: 'it returns false'. Refute it at one input. -/
def fnExactBestPagesWrong : ChangeSpec := { name := "fnExactBestPages", fn := fun _ => fun
  | [d1, d2] => { results := [.lit (.bool false)], args := [d1, d2] }
  | _ => none }
def FnExactBestPagesWrongFalsely : Prop := fnExactBestPagesRow.holds Try.pinned (OpenSpec.ofChange fnExactBestPagesWrong)

/-- 'laws.FnBestPages': WHATEVER THE INPUT: true; the input reads as it did. -/
def fnBestPagesSpec : ChangeSpec := { name := "fnBestPages", fn := fun _ => fun
  | [d] => { results := [.lit (.bool true)], args := [d] }
  | _ => none }
def fnBestPagesRow : OpenClaim := { program := "ytpbccblenohhoaa", sum := "d3c930aaeb31e6fcedf33ead0bcba6f04fee76a69f8058c2c9a09bf11f6732ea", func := "loop.example/pagebuilder/laws.FnBestPages", spec := "fnBestPages", apart := false }
def FnBestPagesSaid : Prop := fnBestPagesRow.holds Try.pinned (OpenSpec.ofChange fnBestPagesSpec)

/-- ITS FALSE NEIGHBOUR: 'it returns false'. Refute it at one input. -/
def fnBestPagesWrong : ChangeSpec := { name := "fnBestPages", fn := fun _ => fun
  | [d] => { results := [.lit (.bool false)], args := [d] }
  | _ => none }
def FnBestPagesWrongFalsely : Prop := fnBestPagesRow.holds Try.pinned (OpenSpec.ofChange fnBestPagesWrong)

/-- 'laws.FnPagesHigher': WHATEVER THE INPUT: true; the input reads as it did. -/
def fnPagesHigherSpec : ChangeSpec := { name := "fnPagesHigher", fn := fun _ => fun
  | [d] => { results := [.lit (.bool true)], args := [d] }
  | _ => none }
def fnPagesHigherRow : OpenClaim := { program := "ytpbccblenohhoaa", sum := "d3c930aaeb31e6fcedf33ead0bcba6f04fee76a69f8058c2c9a09bf11f6732ea", func := "loop.example/pagebuilder/laws.FnPagesHigher", spec := "fnPagesHigher", apart := false }
def FnPagesHigherSaid : Prop := fnPagesHigherRow.holds Try.pinned (OpenSpec.ofChange fnPagesHigherSpec)

/-- ITS FALSE NEIGHBOUR: 'it returns false'. Refute it at one input. -/
def fnPagesHigherWrong : ChangeSpec := { name := "fnPagesHigher", fn := fun _ => fun
  | [d] => { results := [.lit (.bool false)], args := [d] }
  | _ => none }
def FnPagesHigherWrongFalsely : Prop := fnPagesHigherRow.holds Try.pinned (OpenSpec.ofChange fnPagesHigherWrong)

/-- 'laws.FnSplitPages': WHATEVER THE INPUT: true; the input reads as it did. -/
def fnSplitPagesSpec : ChangeSpec := { name := "fnSplitPages", fn := fun _ => fun
  | [d] => { results := [.lit (.bool true)], args := [d] }
  | _ => none }
def fnSplitPagesRow : OpenClaim := { program := "ytpbccblenohhoaa", sum := "d3c930aaeb31e6fcedf33ead0bcba6f04fee76a69f8058c2c9a09bf11f6732ea", func := "loop.example/pagebuilder/laws.FnSplitPages", spec := "fnSplitPages", apart := false }
def FnSplitPagesSaid : Prop := fnSplitPagesRow.holds Try.pinned (OpenSpec.ofChange fnSplitPagesSpec)

/-- ITS FALSE NEIGHBOUR: 'it returns false'. Refute it at one input. -/
def fnSplitPagesWrong : ChangeSpec := { name := "fnSplitPages", fn := fun _ => fun
  | [d] => { results := [.lit (.bool false)], args := [d] }
  | _ => none }
def FnSplitPagesWrongFalsely : Prop := fnSplitPagesRow.holds Try.pinned (OpenSpec.ofChange fnSplitPagesWrong)

/- THE SECOND FORM. 'bulk': how many values and letters a reading holds, each counted each time it is reached (what is shared counts as often as it is met; a slice's spare places count too). A statement '..UptoSaid' is the law's where the arguments, and the package variables that the reading takes, are together of bulk at most 1048576: NARROWER than '..Said'. Prove '..Said' where nothing that the law and all that it calls make is longer than what came in: it says more and counts as full. Else prove '..UptoSaid'. A law counts once. -/
mutual
def uptoBulk {H : Type} : DataW H → Nat
  | .lit (.string bytes) => bytes.length + 1
  | .lit _ => 1
  | .nil => 1
  | .ptr d => uptoBulk d + 1
  | .slice elems spare => uptoBulkAll elems + uptoBulkAll spare + 1
  | .agg parts => uptoBulkAll parts + 1
  | .iface _ d => uptoBulk d + 1
  | .map entries => uptoBulkEntries entries + 1
  | .held _ => 1
def uptoBulkAll {H : Type} : List (DataW H) → Nat
  | [] => 0
  | d :: r => uptoBulk d + uptoBulkAll r
def uptoBulkEntries {H : Type} : List (Lit × DataW H) → Nat
  | [] => 0
  | x :: r => uptoBulkEntry x + uptoBulkEntries r
def uptoBulkEntry {H : Type} : Lit × DataW H → Nat
  | (.string bytes, d) => bytes.length + uptoBulk d + 1
  | (_, d) => uptoBulk d + 1
 end
def uptoSmall : (H : Type) → List (DataW H) → Bool := fun _ ds => decide (uptoBulkAll ds ≤ 1048576)
def OpenSpec.upto (s : _root_.Go.ChangeSpec) : _root_.Go.OpenSpec := { _root_.Go.OpenSpec.ofChange s with cond := some uptoSmall }

/-- 'laws.FnExactPagesCost', WHERE WHAT IT READS IS OF BULK AT MOST 1048576: true; the input reads as it did. -/
def fnExactPagesCostUptoRow : OpenClaim := { program := "ytpbccblenohhoaa", sum := "d3c930aaeb31e6fcedf33ead0bcba6f04fee76a69f8058c2c9a09bf11f6732ea", func := "loop.example/pagebuilder/laws.FnExactPagesCost", spec := "fnExactPagesCost", apart := false, narrowed := true }
def FnExactPagesCostUptoSaid : Prop := fnExactPagesCostUptoRow.holds Try.pinned (OpenSpec.upto fnExactPagesCostSpec)

/-- 'laws.FnPagesCost', WHERE WHAT IT READS IS OF BULK AT MOST 1048576: true; the input reads as it did. -/
def fnPagesCostUptoRow : OpenClaim := { program := "ytpbccblenohhoaa", sum := "d3c930aaeb31e6fcedf33ead0bcba6f04fee76a69f8058c2c9a09bf11f6732ea", func := "loop.example/pagebuilder/laws.FnPagesCost", spec := "fnPagesCost", apart := false, narrowed := true }
def FnPagesCostUptoSaid : Prop := fnPagesCostUptoRow.holds Try.pinned (OpenSpec.upto fnPagesCostSpec)

/-- 'laws.FnExactFirstPages', WHERE WHAT IT READS IS OF BULK AT MOST 1048576: true; the input reads as it did. -/
def fnExactFirstPagesUptoRow : OpenClaim := { program := "ytpbccblenohhoaa", sum := "d3c930aaeb31e6fcedf33ead0bcba6f04fee76a69f8058c2c9a09bf11f6732ea", func := "loop.example/pagebuilder/laws.FnExactFirstPages", spec := "fnExactFirstPages", apart := false, narrowed := true }
def FnExactFirstPagesUptoSaid : Prop := fnExactFirstPagesUptoRow.holds Try.pinned (OpenSpec.upto fnExactFirstPagesSpec)

/-- 'laws.FnFirstPages', WHERE WHAT IT READS IS OF BULK AT MOST 1048576: true; the input reads as it did. -/
def fnFirstPagesUptoRow : OpenClaim := { program := "ytpbccblenohhoaa", sum := "d3c930aaeb31e6fcedf33ead0bcba6f04fee76a69f8058c2c9a09bf11f6732ea", func := "loop.example/pagebuilder/laws.FnFirstPages", spec := "fnFirstPages", apart := false, narrowed := true }
def FnFirstPagesUptoSaid : Prop := fnFirstPagesUptoRow.holds Try.pinned (OpenSpec.upto fnFirstPagesSpec)

/-- 'laws.FnExactBestPages', WHERE WHAT IT READS IS OF BULK AT MOST 1048576: true; the input reads as it did. -/
def fnExactBestPagesUptoRow : OpenClaim := { program := "ytpbccblenohhoaa", sum := "d3c930aaeb31e6fcedf33ead0bcba6f04fee76a69f8058c2c9a09bf11f6732ea", func := "loop.example/pagebuilder/laws.FnExactBestPages", spec := "fnExactBestPages", apart := false, narrowed := true }
def FnExactBestPagesUptoSaid : Prop := fnExactBestPagesUptoRow.holds Try.pinned (OpenSpec.upto fnExactBestPagesSpec)

/-- 'laws.FnBestPages', WHERE WHAT IT READS IS OF BULK AT MOST 1048576: true; the input reads as it did. -/
def fnBestPagesUptoRow : OpenClaim := { program := "ytpbccblenohhoaa", sum := "d3c930aaeb31e6fcedf33ead0bcba6f04fee76a69f8058c2c9a09bf11f6732ea", func := "loop.example/pagebuilder/laws.FnBestPages", spec := "fnBestPages", apart := false, narrowed := true }
def FnBestPagesUptoSaid : Prop := fnBestPagesUptoRow.holds Try.pinned (OpenSpec.upto fnBestPagesSpec)

/-- 'laws.FnPagesHigher', WHERE WHAT IT READS IS OF BULK AT MOST 1048576: true; the input reads as it did. -/
def fnPagesHigherUptoRow : OpenClaim := { program := "ytpbccblenohhoaa", sum := "d3c930aaeb31e6fcedf33ead0bcba6f04fee76a69f8058c2c9a09bf11f6732ea", func := "loop.example/pagebuilder/laws.FnPagesHigher", spec := "fnPagesHigher", apart := false, narrowed := true }
def FnPagesHigherUptoSaid : Prop := fnPagesHigherUptoRow.holds Try.pinned (OpenSpec.upto fnPagesHigherSpec)

/-- 'laws.FnSplitPages', WHERE WHAT IT READS IS OF BULK AT MOST 1048576: true; the input reads as it did. -/
def fnSplitPagesUptoRow : OpenClaim := { program := "ytpbccblenohhoaa", sum := "d3c930aaeb31e6fcedf33ead0bcba6f04fee76a69f8058c2c9a09bf11f6732ea", func := "loop.example/pagebuilder/laws.FnSplitPages", spec := "fnSplitPages", apart := false, narrowed := true }
def FnSplitPagesUptoSaid : Prop := fnSplitPagesUptoRow.holds Try.pinned (OpenSpec.upto fnSplitPagesSpec)

end Rows
end Go.Proofs.Ytpbccblenohhoaa
