/-
  No cell of these rows narrows 'for every input' (looked for: loops, veiled, ifaces, maps, wideKeys, modest, calm, conditions, laid).
  DERIVED. THE GIVEN ROWS OF THIS SEAT. 13 by the template 'for every input the law returns true; each argument reads behind the call as it read before'; 0 by the template 'total and deterministic' (their statements: YtdjilkohnhejiaaTotals.lean).
  GIVEN WITH THE SEED: the statements are not yours to turn. If you find one false, say at which input.
  Laid BY PROGRAM, IN A SANDBOX (cutbox-rows.mjs): the forced cells as the released guide's own fill.sh prints them over the translation 68da4d8826c1747b… (all of the seat's roots in one cut). By AI agents, Wed Nov 11 2026. No macro, syntax, notation, axiom, sorry.
-/
import Derived.Test.YtdjilkohnhejiaaChecked
import GoSem.Claim
import GoSem.ClaimJoined
import GoSem.ClaimMapViews
import Derived.JoinedTies
import Derived.KernelRfl
namespace Go.Proofs.Ytdjilkohnhejiaa
/- THE CELL 'sum', in the pinned program and in every row, IS THE sha256 OF THE DUMP (.gsa) THAT YtdjilkohnhejiaaProg.lean LOADS. Nothing in Lean hashes anything: it is a label: what it is worth is what the hold of that sum in a sandbox is worth. -/
noncomputable def Try.pinned : Pinned := { name := "ytdjilkohnhejiaa", sum := "68da4d8826c1747b4a0f882f8fbde0b5fa7e4ac232ab5706a698c7fbc4241d16", checked := Try.checked }
namespace Rows
def none {H : Type} : Left H := { results := [], args := [] }

/-- 'laws.FnExactHeadingsValid': WHATEVER THE INPUT: true; the input reads as it did. -/
def fnExactHeadingsValidSpec : ChangeSpec := { name := "fnExactHeadingsValid", fn := fun _ => fun
  | [d] => { results := [.lit (.bool true)], args := [d] }
  | _ => none }
def fnExactHeadingsValidRow : OpenClaim := { program := "ytdjilkohnhejiaa", sum := "68da4d8826c1747b4a0f882f8fbde0b5fa7e4ac232ab5706a698c7fbc4241d16", func := "loop.example/pagebuilder/laws.FnExactHeadingsValid", spec := "fnExactHeadingsValid", apart := false }
def FnExactHeadingsValidSaid : Prop := fnExactHeadingsValidRow.holds Try.pinned (OpenSpec.ofChange fnExactHeadingsValidSpec)

/-- ITS FALSE NEIGHBOUR: 'it returns false'. Refute it at one input. -/
def fnExactHeadingsValidWrong : ChangeSpec := { name := "fnExactHeadingsValid", fn := fun _ => fun
  | [d] => { results := [.lit (.bool false)], args := [d] }
  | _ => none }
def FnExactHeadingsValidWrongFalsely : Prop := fnExactHeadingsValidRow.holds Try.pinned (OpenSpec.ofChange fnExactHeadingsValidWrong)

/-- 'laws.FnHeadingsValid': WHATEVER THE INPUT: true; the input reads as it did. -/
def fnHeadingsValidSpec : ChangeSpec := { name := "fnHeadingsValid", fn := fun _ => fun
  | [d] => { results := [.lit (.bool true)], args := [d] }
  | _ => none }
def fnHeadingsValidRow : OpenClaim := { program := "ytdjilkohnhejiaa", sum := "68da4d8826c1747b4a0f882f8fbde0b5fa7e4ac232ab5706a698c7fbc4241d16", func := "loop.example/pagebuilder/laws.FnHeadingsValid", spec := "fnHeadingsValid", apart := false }
def FnHeadingsValidSaid : Prop := fnHeadingsValidRow.holds Try.pinned (OpenSpec.ofChange fnHeadingsValidSpec)

/-- ITS FALSE NEIGHBOUR: 'it returns false'. Refute it at one input. -/
def fnHeadingsValidWrong : ChangeSpec := { name := "fnHeadingsValid", fn := fun _ => fun
  | [d] => { results := [.lit (.bool false)], args := [d] }
  | _ => none }
def FnHeadingsValidWrongFalsely : Prop := fnHeadingsValidRow.holds Try.pinned (OpenSpec.ofChange fnHeadingsValidWrong)

/-- 'laws.FnExactHeadingsOf': WHATEVER THE INPUT: true; the input reads as it did. -/
def fnExactHeadingsOfSpec : ChangeSpec := { name := "fnExactHeadingsOf", fn := fun _ => fun
  | [d1, d2, d3] => { results := [.lit (.bool true)], args := [d1, d2, d3] }
  | _ => none }
def fnExactHeadingsOfRow : OpenClaim := { program := "ytdjilkohnhejiaa", sum := "68da4d8826c1747b4a0f882f8fbde0b5fa7e4ac232ab5706a698c7fbc4241d16", func := "loop.example/pagebuilder/laws.FnExactHeadingsOf", spec := "fnExactHeadingsOf", apart := false }
def FnExactHeadingsOfSaid : Prop := fnExactHeadingsOfRow.holds Try.pinned (OpenSpec.ofChange fnExactHeadingsOfSpec)

/-- ITS FALSE NEIGHBOUR: 'it returns false'. Refute it at one input. -/
def fnExactHeadingsOfWrong : ChangeSpec := { name := "fnExactHeadingsOf", fn := fun _ => fun
  | [d1, d2, d3] => { results := [.lit (.bool false)], args := [d1, d2, d3] }
  | _ => none }
def FnExactHeadingsOfWrongFalsely : Prop := fnExactHeadingsOfRow.holds Try.pinned (OpenSpec.ofChange fnExactHeadingsOfWrong)

/-- 'laws.FnHeadingsOf': WHATEVER THE INPUT: true; the input reads as it did. -/
def fnHeadingsOfSpec : ChangeSpec := { name := "fnHeadingsOf", fn := fun _ => fun
  | [d] => { results := [.lit (.bool true)], args := [d] }
  | _ => none }
def fnHeadingsOfRow : OpenClaim := { program := "ytdjilkohnhejiaa", sum := "68da4d8826c1747b4a0f882f8fbde0b5fa7e4ac232ab5706a698c7fbc4241d16", func := "loop.example/pagebuilder/laws.FnHeadingsOf", spec := "fnHeadingsOf", apart := false }
def FnHeadingsOfSaid : Prop := fnHeadingsOfRow.holds Try.pinned (OpenSpec.ofChange fnHeadingsOfSpec)

/-- ITS FALSE NEIGHBOUR: 'it returns false'. Refute it at one input. -/
def fnHeadingsOfWrong : ChangeSpec := { name := "fnHeadingsOf", fn := fun _ => fun
  | [d] => { results := [.lit (.bool false)], args := [d] }
  | _ => none }
def FnHeadingsOfWrongFalsely : Prop := fnHeadingsOfRow.holds Try.pinned (OpenSpec.ofChange fnHeadingsOfWrong)

/-- 'laws.FnExactPageHeadings': WHATEVER THE INPUT: true; the input reads as it did. -/
def fnExactPageHeadingsSpec : ChangeSpec := { name := "fnExactPageHeadings", fn := fun _ => fun
  | [d1, d2] => { results := [.lit (.bool true)], args := [d1, d2] }
  | _ => none }
def fnExactPageHeadingsRow : OpenClaim := { program := "ytdjilkohnhejiaa", sum := "68da4d8826c1747b4a0f882f8fbde0b5fa7e4ac232ab5706a698c7fbc4241d16", func := "loop.example/pagebuilder/laws.FnExactPageHeadings", spec := "fnExactPageHeadings", apart := false }
def FnExactPageHeadingsSaid : Prop := fnExactPageHeadingsRow.holds Try.pinned (OpenSpec.ofChange fnExactPageHeadingsSpec)

/-- ITS FALSE NEIGHBOUR: 'it returns false'. Refute it at one input. -/
def fnExactPageHeadingsWrong : ChangeSpec := { name := "fnExactPageHeadings", fn := fun _ => fun
  | [d1, d2] => { results := [.lit (.bool false)], args := [d1, d2] }
  | _ => none }
def FnExactPageHeadingsWrongFalsely : Prop := fnExactPageHeadingsRow.holds Try.pinned (OpenSpec.ofChange fnExactPageHeadingsWrong)

/-- 'laws.FnPageHeadings': WHATEVER THE INPUT: true; the input reads as it did. -/
def fnPageHeadingsSpec : ChangeSpec := { name := "fnPageHeadings", fn := fun _ => fun
  | [d] => { results := [.lit (.bool true)], args := [d] }
  | _ => none }
def fnPageHeadingsRow : OpenClaim := { program := "ytdjilkohnhejiaa", sum := "68da4d8826c1747b4a0f882f8fbde0b5fa7e4ac232ab5706a698c7fbc4241d16", func := "loop.example/pagebuilder/laws.FnPageHeadings", spec := "fnPageHeadings", apart := false }
def FnPageHeadingsSaid : Prop := fnPageHeadingsRow.holds Try.pinned (OpenSpec.ofChange fnPageHeadingsSpec)

/-- ITS FALSE NEIGHBOUR: 'it returns false'. Refute it at one input. -/
def fnPageHeadingsWrong : ChangeSpec := { name := "fnPageHeadings", fn := fun _ => fun
  | [d] => { results := [.lit (.bool false)], args := [d] }
  | _ => none }
def FnPageHeadingsWrongFalsely : Prop := fnPageHeadingsRow.holds Try.pinned (OpenSpec.ofChange fnPageHeadingsWrong)

/-- 'laws.FnExactEntriesValid': WHATEVER THE INPUT: true; the input reads as it did. -/
def fnExactEntriesValidSpec : ChangeSpec := { name := "fnExactEntriesValid", fn := fun _ => fun
  | [d1, d2] => { results := [.lit (.bool true)], args := [d1, d2] }
  | _ => none }
def fnExactEntriesValidRow : OpenClaim := { program := "ytdjilkohnhejiaa", sum := "68da4d8826c1747b4a0f882f8fbde0b5fa7e4ac232ab5706a698c7fbc4241d16", func := "loop.example/pagebuilder/laws.FnExactEntriesValid", spec := "fnExactEntriesValid", apart := false }
def FnExactEntriesValidSaid : Prop := fnExactEntriesValidRow.holds Try.pinned (OpenSpec.ofChange fnExactEntriesValidSpec)

/-- ITS FALSE NEIGHBOUR: 'it returns false'. Refute it at one input. -/
def fnExactEntriesValidWrong : ChangeSpec := { name := "fnExactEntriesValid", fn := fun _ => fun
  | [d1, d2] => { results := [.lit (.bool false)], args := [d1, d2] }
  | _ => none }
def FnExactEntriesValidWrongFalsely : Prop := fnExactEntriesValidRow.holds Try.pinned (OpenSpec.ofChange fnExactEntriesValidWrong)

/-- 'laws.FnEntriesValid': WHATEVER THE INPUT: true; the input reads as it did. -/
def fnEntriesValidSpec : ChangeSpec := { name := "fnEntriesValid", fn := fun _ => fun
  | [d] => { results := [.lit (.bool true)], args := [d] }
  | _ => none }
def fnEntriesValidRow : OpenClaim := { program := "ytdjilkohnhejiaa", sum := "68da4d8826c1747b4a0f882f8fbde0b5fa7e4ac232ab5706a698c7fbc4241d16", func := "loop.example/pagebuilder/laws.FnEntriesValid", spec := "fnEntriesValid", apart := false }
def FnEntriesValidSaid : Prop := fnEntriesValidRow.holds Try.pinned (OpenSpec.ofChange fnEntriesValidSpec)

/-- ITS FALSE NEIGHBOUR: 'it returns false'. Refute it at one input. -/
def fnEntriesValidWrong : ChangeSpec := { name := "fnEntriesValid", fn := fun _ => fun
  | [d] => { results := [.lit (.bool false)], args := [d] }
  | _ => none }
def FnEntriesValidWrongFalsely : Prop := fnEntriesValidRow.holds Try.pinned (OpenSpec.ofChange fnEntriesValidWrong)

/-- 'laws.FnExactTableWidths': WHATEVER THE INPUT: true; the input reads as it did. -/
def fnExactTableWidthsSpec : ChangeSpec := { name := "fnExactTableWidths", fn := fun _ => fun
  | [d1, d2] => { results := [.lit (.bool true)], args := [d1, d2] }
  | _ => none }
def fnExactTableWidthsRow : OpenClaim := { program := "ytdjilkohnhejiaa", sum := "68da4d8826c1747b4a0f882f8fbde0b5fa7e4ac232ab5706a698c7fbc4241d16", func := "loop.example/pagebuilder/laws.FnExactTableWidths", spec := "fnExactTableWidths", apart := false }
def FnExactTableWidthsSaid : Prop := fnExactTableWidthsRow.holds Try.pinned (OpenSpec.ofChange fnExactTableWidthsSpec)

/-- ITS FALSE NEIGHBOUR: 'it returns false'. Refute it at one input. -/
def fnExactTableWidthsWrong : ChangeSpec := { name := "fnExactTableWidths", fn := fun _ => fun
  | [d1, d2] => { results := [.lit (.bool false)], args := [d1, d2] }
  | _ => none }
def FnExactTableWidthsWrongFalsely : Prop := fnExactTableWidthsRow.holds Try.pinned (OpenSpec.ofChange fnExactTableWidthsWrong)

/-- 'laws.FnTableWidths': WHATEVER THE INPUT: true; the input reads as it did. -/
def fnTableWidthsSpec : ChangeSpec := { name := "fnTableWidths", fn := fun _ => fun
  | [d] => { results := [.lit (.bool true)], args := [d] }
  | _ => none }
def fnTableWidthsRow : OpenClaim := { program := "ytdjilkohnhejiaa", sum := "68da4d8826c1747b4a0f882f8fbde0b5fa7e4ac232ab5706a698c7fbc4241d16", func := "loop.example/pagebuilder/laws.FnTableWidths", spec := "fnTableWidths", apart := false }
def FnTableWidthsSaid : Prop := fnTableWidthsRow.holds Try.pinned (OpenSpec.ofChange fnTableWidthsSpec)

/-- ITS FALSE NEIGHBOUR: 'it returns false'. Refute it at one input. -/
def fnTableWidthsWrong : ChangeSpec := { name := "fnTableWidths", fn := fun _ => fun
  | [d] => { results := [.lit (.bool false)], args := [d] }
  | _ => none }
def FnTableWidthsWrongFalsely : Prop := fnTableWidthsRow.holds Try.pinned (OpenSpec.ofChange fnTableWidthsWrong)

/-- 'laws.FnTableMore': WHATEVER THE INPUT: true; the input reads as it did. -/
def fnTableMoreSpec : ChangeSpec := { name := "fnTableMore", fn := fun _ => fun
  | [d] => { results := [.lit (.bool true)], args := [d] }
  | _ => none }
def fnTableMoreRow : OpenClaim := { program := "ytdjilkohnhejiaa", sum := "68da4d8826c1747b4a0f882f8fbde0b5fa7e4ac232ab5706a698c7fbc4241d16", func := "loop.example/pagebuilder/laws.FnTableMore", spec := "fnTableMore", apart := false }
def FnTableMoreSaid : Prop := fnTableMoreRow.holds Try.pinned (OpenSpec.ofChange fnTableMoreSpec)

/-- ITS FALSE NEIGHBOUR: 'it returns false'. Refute it at one input. -/
def fnTableMoreWrong : ChangeSpec := { name := "fnTableMore", fn := fun _ => fun
  | [d] => { results := [.lit (.bool false)], args := [d] }
  | _ => none }
def FnTableMoreWrongFalsely : Prop := fnTableMoreRow.holds Try.pinned (OpenSpec.ofChange fnTableMoreWrong)

/-- 'laws.FnExactTablePlaces': WHATEVER THE INPUT: true; the input reads as it did. -/
def fnExactTablePlacesSpec : ChangeSpec := { name := "fnExactTablePlaces", fn := fun _ => fun
  | [d1, d2, d3] => { results := [.lit (.bool true)], args := [d1, d2, d3] }
  | _ => none }
def fnExactTablePlacesRow : OpenClaim := { program := "ytdjilkohnhejiaa", sum := "68da4d8826c1747b4a0f882f8fbde0b5fa7e4ac232ab5706a698c7fbc4241d16", func := "loop.example/pagebuilder/laws.FnExactTablePlaces", spec := "fnExactTablePlaces", apart := false }
def FnExactTablePlacesSaid : Prop := fnExactTablePlacesRow.holds Try.pinned (OpenSpec.ofChange fnExactTablePlacesSpec)

/-- ITS FALSE NEIGHBOUR: 'it returns false'. Refute it at one input. -/
def fnExactTablePlacesWrong : ChangeSpec := { name := "fnExactTablePlaces", fn := fun _ => fun
  | [d1, d2, d3] => { results := [.lit (.bool false)], args := [d1, d2, d3] }
  | _ => none }
def FnExactTablePlacesWrongFalsely : Prop := fnExactTablePlacesRow.holds Try.pinned (OpenSpec.ofChange fnExactTablePlacesWrong)

/-- 'laws.FnTablePlaces': WHATEVER THE INPUT: true; the input reads as it did. -/
def fnTablePlacesSpec : ChangeSpec := { name := "fnTablePlaces", fn := fun _ => fun
  | [d] => { results := [.lit (.bool true)], args := [d] }
  | _ => none }
def fnTablePlacesRow : OpenClaim := { program := "ytdjilkohnhejiaa", sum := "68da4d8826c1747b4a0f882f8fbde0b5fa7e4ac232ab5706a698c7fbc4241d16", func := "loop.example/pagebuilder/laws.FnTablePlaces", spec := "fnTablePlaces", apart := false }
def FnTablePlacesSaid : Prop := fnTablePlacesRow.holds Try.pinned (OpenSpec.ofChange fnTablePlacesSpec)

/-- ITS FALSE NEIGHBOUR: 'it returns false'. Refute it at one input. -/
def fnTablePlacesWrong : ChangeSpec := { name := "fnTablePlaces", fn := fun _ => fun
  | [d] => { results := [.lit (.bool false)], args := [d] }
  | _ => none }
def FnTablePlacesWrongFalsely : Prop := fnTablePlacesRow.holds Try.pinned (OpenSpec.ofChange fnTablePlacesWrong)

/- THE SECOND FORM. 'bulk': how many values and letters a reading holds, each counted each time it is reached (what is shared counts as often as it is met; a slice's spare places count too). A statement '..UptoSaid' is the law's where the arguments, and the package variables that the reading takes, are together of bulk at most 1048576: NARROWER than '..Said'. Prove '..Said' where nothing that the law and all that it calls make is longer than what came in: it says more and counts as full. Else prove '..UptoSaid'. A law counts once. -/
mutual
def uptoBulk {H : Type} : DataW H → Nat
  | .lit (.string bytes) => bytes.length + 1
  | .lit _ => 1
  | .nil => 1
  | .ptr d => uptoBulk d + 1
  | .slice elems spare => uptoBulkAll elems + uptoBulkAll spare + 1
  | .agg parts => uptoBulkAll parts + 1
  | .iface _ d => uptoBulk d + 1
  | .map entries => uptoBulkEntries entries + 1
  | .held _ => 1
def uptoBulkAll {H : Type} : List (DataW H) → Nat
  | [] => 0
  | d :: r => uptoBulk d + uptoBulkAll r
def uptoBulkEntries {H : Type} : List (Lit × DataW H) → Nat
  | [] => 0
  | x :: r => uptoBulkEntry x + uptoBulkEntries r
def uptoBulkEntry {H : Type} : Lit × DataW H → Nat
  | (.string bytes, d) => bytes.length + uptoBulk d + 1
  | (_, d) => uptoBulk d + 1
 end
def uptoSmall : (H : Type) → List (DataW H) → Bool := fun _ ds => decide (uptoBulkAll ds ≤ 1048576)
def OpenSpec.upto (s : _root_.Go.ChangeSpec) : _root_.Go.OpenSpec := { _root_.Go.OpenSpec.ofChange s with cond := some uptoSmall }

/-- 'laws.FnExactHeadingsValid', WHERE WHAT IT READS IS OF BULK AT MOST 1048576: true; the input reads as it did. -/
def fnExactHeadingsValidUptoRow : OpenClaim := { program := "ytdjilkohnhejiaa", sum := "68da4d8826c1747b4a0f882f8fbde0b5fa7e4ac232ab5706a698c7fbc4241d16", func := "loop.example/pagebuilder/laws.FnExactHeadingsValid", spec := "fnExactHeadingsValid", apart := false, narrowed := true }
def FnExactHeadingsValidUptoSaid : Prop := fnExactHeadingsValidUptoRow.holds Try.pinned (OpenSpec.upto fnExactHeadingsValidSpec)

/-- 'laws.FnHeadingsValid', WHERE WHAT IT READS IS OF BULK AT MOST 1048576: true; the input reads as it did. -/
def fnHeadingsValidUptoRow : OpenClaim := { program := "ytdjilkohnhejiaa", sum := "68da4d8826c1747b4a0f882f8fbde0b5fa7e4ac232ab5706a698c7fbc4241d16", func := "loop.example/pagebuilder/laws.FnHeadingsValid", spec := "fnHeadingsValid", apart := false, narrowed := true }
def FnHeadingsValidUptoSaid : Prop := fnHeadingsValidUptoRow.holds Try.pinned (OpenSpec.upto fnHeadingsValidSpec)

/-- 'laws.FnExactHeadingsOf', WHERE WHAT IT READS IS OF BULK AT MOST 1048576: true; the input reads as it did. -/
def fnExactHeadingsOfUptoRow : OpenClaim := { program := "ytdjilkohnhejiaa", sum := "68da4d8826c1747b4a0f882f8fbde0b5fa7e4ac232ab5706a698c7fbc4241d16", func := "loop.example/pagebuilder/laws.FnExactHeadingsOf", spec := "fnExactHeadingsOf", apart := false, narrowed := true }
def FnExactHeadingsOfUptoSaid : Prop := fnExactHeadingsOfUptoRow.holds Try.pinned (OpenSpec.upto fnExactHeadingsOfSpec)

/-- 'laws.FnHeadingsOf', WHERE WHAT IT READS IS OF BULK AT MOST 1048576: true; the input reads as it did. -/
def fnHeadingsOfUptoRow : OpenClaim := { program := "ytdjilkohnhejiaa", sum := "68da4d8826c1747b4a0f882f8fbde0b5fa7e4ac232ab5706a698c7fbc4241d16", func := "loop.example/pagebuilder/laws.FnHeadingsOf", spec := "fnHeadingsOf", apart := false, narrowed := true }
def FnHeadingsOfUptoSaid : Prop := fnHeadingsOfUptoRow.holds Try.pinned (OpenSpec.upto fnHeadingsOfSpec)

/-- 'laws.FnExactPageHeadings', WHERE WHAT IT READS IS OF BULK AT MOST 1048576: true; the input reads as it did. -/
def fnExactPageHeadingsUptoRow : OpenClaim := { program := "ytdjilkohnhejiaa", sum := "68da4d8826c1747b4a0f882f8fbde0b5fa7e4ac232ab5706a698c7fbc4241d16", func := "loop.example/pagebuilder/laws.FnExactPageHeadings", spec := "fnExactPageHeadings", apart := false, narrowed := true }
def FnExactPageHeadingsUptoSaid : Prop := fnExactPageHeadingsUptoRow.holds Try.pinned (OpenSpec.upto fnExactPageHeadingsSpec)

/-- 'laws.FnPageHeadings', WHERE WHAT IT READS IS OF BULK AT MOST 1048576: true; the input reads as it did. -/
def fnPageHeadingsUptoRow : OpenClaim := { program := "ytdjilkohnhejiaa", sum := "68da4d8826c1747b4a0f882f8fbde0b5fa7e4ac232ab5706a698c7fbc4241d16", func := "loop.example/pagebuilder/laws.FnPageHeadings", spec := "fnPageHeadings", apart := false, narrowed := true }
def FnPageHeadingsUptoSaid : Prop := fnPageHeadingsUptoRow.holds Try.pinned (OpenSpec.upto fnPageHeadingsSpec)

/-- 'laws.FnExactEntriesValid', WHERE WHAT IT READS IS OF BULK AT MOST 1048576: true; the input reads as it did. -/
def fnExactEntriesValidUptoRow : OpenClaim := { program := "ytdjilkohnhejiaa", sum := "68da4d8826c1747b4a0f882f8fbde0b5fa7e4ac232ab5706a698c7fbc4241d16", func := "loop.example/pagebuilder/laws.FnExactEntriesValid", spec := "fnExactEntriesValid", apart := false, narrowed := true }
def FnExactEntriesValidUptoSaid : Prop := fnExactEntriesValidUptoRow.holds Try.pinned (OpenSpec.upto fnExactEntriesValidSpec)

/-- 'laws.FnEntriesValid', WHERE WHAT IT READS IS OF BULK AT MOST 1048576: true; the input reads as it did. -/
def fnEntriesValidUptoRow : OpenClaim := { program := "ytdjilkohnhejiaa", sum := "68da4d8826c1747b4a0f882f8fbde0b5fa7e4ac232ab5706a698c7fbc4241d16", func := "loop.example/pagebuilder/laws.FnEntriesValid", spec := "fnEntriesValid", apart := false, narrowed := true }
def FnEntriesValidUptoSaid : Prop := fnEntriesValidUptoRow.holds Try.pinned (OpenSpec.upto fnEntriesValidSpec)

/-- 'laws.FnExactTableWidths', WHERE WHAT IT READS IS OF BULK AT MOST 1048576: true; the input reads as it did. -/
def fnExactTableWidthsUptoRow : OpenClaim := { program := "ytdjilkohnhejiaa", sum := "68da4d8826c1747b4a0f882f8fbde0b5fa7e4ac232ab5706a698c7fbc4241d16", func := "loop.example/pagebuilder/laws.FnExactTableWidths", spec := "fnExactTableWidths", apart := false, narrowed := true }
def FnExactTableWidthsUptoSaid : Prop := fnExactTableWidthsUptoRow.holds Try.pinned (OpenSpec.upto fnExactTableWidthsSpec)

/-- 'laws.FnTableWidths', WHERE WHAT IT READS IS OF BULK AT MOST 1048576: true; the input reads as it did. -/
def fnTableWidthsUptoRow : OpenClaim := { program := "ytdjilkohnhejiaa", sum := "68da4d8826c1747b4a0f882f8fbde0b5fa7e4ac232ab5706a698c7fbc4241d16", func := "loop.example/pagebuilder/laws.FnTableWidths", spec := "fnTableWidths", apart := false, narrowed := true }
def FnTableWidthsUptoSaid : Prop := fnTableWidthsUptoRow.holds Try.pinned (OpenSpec.upto fnTableWidthsSpec)

/-- 'laws.FnTableMore', WHERE WHAT IT READS IS OF BULK AT MOST 1048576: true; the input reads as it did. -/
def fnTableMoreUptoRow : OpenClaim := { program := "ytdjilkohnhejiaa", sum := "68da4d8826c1747b4a0f882f8fbde0b5fa7e4ac232ab5706a698c7fbc4241d16", func := "loop.example/pagebuilder/laws.FnTableMore", spec := "fnTableMore", apart := false, narrowed := true }
def FnTableMoreUptoSaid : Prop := fnTableMoreUptoRow.holds Try.pinned (OpenSpec.upto fnTableMoreSpec)

/-- 'laws.FnExactTablePlaces', WHERE WHAT IT READS IS OF BULK AT MOST 1048576: true; the input reads as it did. -/
def fnExactTablePlacesUptoRow : OpenClaim := { program := "ytdjilkohnhejiaa", sum := "68da4d8826c1747b4a0f882f8fbde0b5fa7e4ac232ab5706a698c7fbc4241d16", func := "loop.example/pagebuilder/laws.FnExactTablePlaces", spec := "fnExactTablePlaces", apart := false, narrowed := true }
def FnExactTablePlacesUptoSaid : Prop := fnExactTablePlacesUptoRow.holds Try.pinned (OpenSpec.upto fnExactTablePlacesSpec)

/-- 'laws.FnTablePlaces', WHERE WHAT IT READS IS OF BULK AT MOST 1048576: true; the input reads as it did. -/
def fnTablePlacesUptoRow : OpenClaim := { program := "ytdjilkohnhejiaa", sum := "68da4d8826c1747b4a0f882f8fbde0b5fa7e4ac232ab5706a698c7fbc4241d16", func := "loop.example/pagebuilder/laws.FnTablePlaces", spec := "fnTablePlaces", apart := false, narrowed := true }
def FnTablePlacesUptoSaid : Prop := fnTablePlacesUptoRow.holds Try.pinned (OpenSpec.upto fnTablePlacesSpec)

end Rows
end Go.Proofs.Ytdjilkohnhejiaa
