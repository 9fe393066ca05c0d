/-
  No cell of these rows narrows 'for every input' (looked for: loops, veiled, ifaces, maps, wideKeys, modest, calm, conditions, laid).
  DERIVED. THE GIVEN ROWS OF THIS SEAT. 10 by the template 'for every input the law returns true; each argument reads behind the call as it read before'; 0 by the template 'total and deterministic' (their statements: YtlklkloadefihaaTotals.lean).
  GIVEN WITH THE SEED: the statements are not yours to turn. If you find one false, say at which input.
  Laid BY PROGRAM, IN A SANDBOX (cutbox-rows.mjs): the forced cells as the released guide's own fill.sh prints them over the translation d65561791e78507b… (all of the seat's roots in one cut). By AI agents, Wed Nov 11 2026. No macro, syntax, notation, axiom, sorry.
-/
import Derived.Test.YtlklkloadefihaaChecked
import GoSem.Claim
import GoSem.ClaimJoined
import GoSem.ClaimMapViews
import Derived.JoinedTies
import Derived.KernelRfl
namespace Go.Proofs.Ytlklkloadefihaa
/- THE CELL 'sum', in the pinned program and in every row, IS THE sha256 OF THE DUMP (.gsa) THAT YtlklkloadefihaaProg.lean LOADS. Nothing in Lean hashes anything: it is a label: what it is worth is what the hold of that sum in a sandbox is worth. -/
noncomputable def Try.pinned : Pinned := { name := "ytlklkloadefihaa", sum := "d65561791e78507b8cd8b78f2260c3177392006dfd817cfa194421ec77f08d4c", checked := Try.checked }
namespace Rows
def none {H : Type} : Left H := { results := [], args := [] }

/-- 'laws.FnLineBadness': WHATEVER THE INPUT: true; the input reads as it did. -/
def fnLineBadnessSpec : ChangeSpec := { name := "fnLineBadness", fn := fun _ => fun
  | [d] => { results := [.lit (.bool true)], args := [d] }
  | _ => none }
def fnLineBadnessRow : OpenClaim := { program := "ytlklkloadefihaa", sum := "d65561791e78507b8cd8b78f2260c3177392006dfd817cfa194421ec77f08d4c", func := "loop.example/pagebuilder/laws.FnLineBadness", spec := "fnLineBadness", plainKeys := false, apart := false }
def FnLineBadnessSaid : Prop := fnLineBadnessRow.holds Try.pinned (OpenSpec.ofChange fnLineBadnessSpec)

/-- ITS FALSE NEIGHBOUR: 'it returns false'. Refute it at one input. -/
def fnLineBadnessWrong : ChangeSpec := { name := "fnLineBadness", fn := fun _ => fun
  | [d] => { results := [.lit (.bool false)], args := [d] }
  | _ => none }
def FnLineBadnessWrongFalsely : Prop := fnLineBadnessRow.holds Try.pinned (OpenSpec.ofChange fnLineBadnessWrong)

/-- 'laws.FnLineBadnesses': WHATEVER THE INPUT: true; the input reads as it did. -/
def fnLineBadnessesSpec : ChangeSpec := { name := "fnLineBadnesses", fn := fun _ => fun
  | [d] => { results := [.lit (.bool true)], args := [d] }
  | _ => none }
def fnLineBadnessesRow : OpenClaim := { program := "ytlklkloadefihaa", sum := "d65561791e78507b8cd8b78f2260c3177392006dfd817cfa194421ec77f08d4c", func := "loop.example/pagebuilder/laws.FnLineBadnesses", spec := "fnLineBadnesses", plainKeys := false, apart := false }
def FnLineBadnessesSaid : Prop := fnLineBadnessesRow.holds Try.pinned (OpenSpec.ofChange fnLineBadnessesSpec)

/-- ITS FALSE NEIGHBOUR: 'it returns false'. Refute it at one input. -/
def fnLineBadnessesWrong : ChangeSpec := { name := "fnLineBadnesses", fn := fun _ => fun
  | [d] => { results := [.lit (.bool false)], args := [d] }
  | _ => none }
def FnLineBadnessesWrongFalsely : Prop := fnLineBadnessesRow.holds Try.pinned (OpenSpec.ofChange fnLineBadnessesWrong)

/-- 'laws.FnLineIsFull': WHATEVER THE INPUT: true; the input reads as it did. -/
def fnLineIsFullSpec : ChangeSpec := { name := "fnLineIsFull", fn := fun _ => fun
  | [d] => { results := [.lit (.bool true)], args := [d] }
  | _ => none }
def fnLineIsFullRow : OpenClaim := { program := "ytlklkloadefihaa", sum := "d65561791e78507b8cd8b78f2260c3177392006dfd817cfa194421ec77f08d4c", func := "loop.example/pagebuilder/laws.FnLineIsFull", spec := "fnLineIsFull", unfollowed := true, recurses := true, plainKeys := false, apart := false }
def FnLineIsFullSaid : Prop := fnLineIsFullRow.holds Try.pinned (OpenSpec.ofChange fnLineIsFullSpec)

/-- ITS FALSE NEIGHBOUR: 'it returns false'. Refute it at one input. -/
def fnLineIsFullWrong : ChangeSpec := { name := "fnLineIsFull", fn := fun _ => fun
  | [d] => { results := [.lit (.bool false)], args := [d] }
  | _ => none }
def FnLineIsFullWrongFalsely : Prop := fnLineIsFullRow.holds Try.pinned (OpenSpec.ofChange fnLineIsFullWrong)

/-- 'laws.FnFirstBreaks': WHATEVER THE INPUT: true; the input reads as it did. -/
def fnFirstBreaksSpec : ChangeSpec := { name := "fnFirstBreaks", fn := fun _ => fun
  | [d] => { results := [.lit (.bool true)], args := [d] }
  | _ => none }
def fnFirstBreaksRow : OpenClaim := { program := "ytlklkloadefihaa", sum := "d65561791e78507b8cd8b78f2260c3177392006dfd817cfa194421ec77f08d4c", func := "loop.example/pagebuilder/laws.FnFirstBreaks", spec := "fnFirstBreaks", recurses := true, plainKeys := false, apart := false }
def FnFirstBreaksSaid : Prop := fnFirstBreaksRow.holds Try.pinned (OpenSpec.ofChange fnFirstBreaksSpec)

/-- ITS FALSE NEIGHBOUR: 'it returns false'. Refute it at one input. -/
def fnFirstBreaksWrong : ChangeSpec := { name := "fnFirstBreaks", fn := fun _ => fun
  | [d] => { results := [.lit (.bool false)], args := [d] }
  | _ => none }
def FnFirstBreaksWrongFalsely : Prop := fnFirstBreaksRow.holds Try.pinned (OpenSpec.ofChange fnFirstBreaksWrong)

/-- 'laws.FnSetLine': WHATEVER THE INPUT: true; the input reads as it did. -/
def fnSetLineSpec : ChangeSpec := { name := "fnSetLine", fn := fun _ => fun
  | [d] => { results := [.lit (.bool true)], args := [d] }
  | _ => none }
def fnSetLineRow : OpenClaim := { program := "ytlklkloadefihaa", sum := "d65561791e78507b8cd8b78f2260c3177392006dfd817cfa194421ec77f08d4c", func := "loop.example/pagebuilder/laws.FnSetLine", spec := "fnSetLine", unfollowed := true, recurses := true, plainKeys := false, apart := false }
def FnSetLineSaid : Prop := fnSetLineRow.holds Try.pinned (OpenSpec.ofChange fnSetLineSpec)

/-- ITS FALSE NEIGHBOUR: 'it returns false'. Refute it at one input. -/
def fnSetLineWrong : ChangeSpec := { name := "fnSetLine", fn := fun _ => fun
  | [d] => { results := [.lit (.bool false)], args := [d] }
  | _ => none }
def FnSetLineWrongFalsely : Prop := fnSetLineRow.holds Try.pinned (OpenSpec.ofChange fnSetLineWrong)

/-- 'laws.FnBreaksCost': WHATEVER THE INPUT: true; the input reads as it did. -/
def fnBreaksCostSpec : ChangeSpec := { name := "fnBreaksCost", fn := fun _ => fun
  | [d] => { results := [.lit (.bool true)], args := [d] }
  | _ => none }
def fnBreaksCostRow : OpenClaim := { program := "ytlklkloadefihaa", sum := "d65561791e78507b8cd8b78f2260c3177392006dfd817cfa194421ec77f08d4c", func := "loop.example/pagebuilder/laws.FnBreaksCost", spec := "fnBreaksCost", plainKeys := false, apart := false }
def FnBreaksCostSaid : Prop := fnBreaksCostRow.holds Try.pinned (OpenSpec.ofChange fnBreaksCostSpec)

/-- ITS FALSE NEIGHBOUR: 'it returns false'. Refute it at one input. -/
def fnBreaksCostWrong : ChangeSpec := { name := "fnBreaksCost", fn := fun _ => fun
  | [d] => { results := [.lit (.bool false)], args := [d] }
  | _ => none }
def FnBreaksCostWrongFalsely : Prop := fnBreaksCostRow.holds Try.pinned (OpenSpec.ofChange fnBreaksCostWrong)

/-- 'laws.FnBreaksMost': WHATEVER THE INPUT: true; the input reads as it did. -/
def fnBreaksMostSpec : ChangeSpec := { name := "fnBreaksMost", fn := fun _ => fun
  | [d] => { results := [.lit (.bool true)], args := [d] }
  | _ => none }
def fnBreaksMostRow : OpenClaim := { program := "ytlklkloadefihaa", sum := "d65561791e78507b8cd8b78f2260c3177392006dfd817cfa194421ec77f08d4c", func := "loop.example/pagebuilder/laws.FnBreaksMost", spec := "fnBreaksMost", recurses := true, plainKeys := false, apart := false }
def FnBreaksMostSaid : Prop := fnBreaksMostRow.holds Try.pinned (OpenSpec.ofChange fnBreaksMostSpec)

/-- ITS FALSE NEIGHBOUR: 'it returns false'. Refute it at one input. -/
def fnBreaksMostWrong : ChangeSpec := { name := "fnBreaksMost", fn := fun _ => fun
  | [d] => { results := [.lit (.bool false)], args := [d] }
  | _ => none }
def FnBreaksMostWrongFalsely : Prop := fnBreaksMostRow.holds Try.pinned (OpenSpec.ofChange fnBreaksMostWrong)

/-- 'laws.FnBestBreaks': WHATEVER THE INPUT: true; the input reads as it did. -/
def fnBestBreaksSpec : ChangeSpec := { name := "fnBestBreaks", fn := fun _ => fun
  | [d] => { results := [.lit (.bool true)], args := [d] }
  | _ => none }
def fnBestBreaksRow : OpenClaim := { program := "ytlklkloadefihaa", sum := "d65561791e78507b8cd8b78f2260c3177392006dfd817cfa194421ec77f08d4c", func := "loop.example/pagebuilder/laws.FnBestBreaks", spec := "fnBestBreaks", recurses := true, plainKeys := false, apart := false }
def FnBestBreaksSaid : Prop := fnBestBreaksRow.holds Try.pinned (OpenSpec.ofChange fnBestBreaksSpec)

/-- ITS FALSE NEIGHBOUR: 'it returns false'. Refute it at one input. -/
def fnBestBreaksWrong : ChangeSpec := { name := "fnBestBreaks", fn := fun _ => fun
  | [d] => { results := [.lit (.bool false)], args := [d] }
  | _ => none }
def FnBestBreaksWrongFalsely : Prop := fnBestBreaksRow.holds Try.pinned (OpenSpec.ofChange fnBestBreaksWrong)

/-- 'laws.FnLinesBoxes': WHATEVER THE INPUT: true; the input reads as it did. -/
def fnLinesBoxesSpec : ChangeSpec := { name := "fnLinesBoxes", fn := fun _ => fun
  | [d] => { results := [.lit (.bool true)], args := [d] }
  | _ => none }
def fnLinesBoxesRow : OpenClaim := { program := "ytlklkloadefihaa", sum := "d65561791e78507b8cd8b78f2260c3177392006dfd817cfa194421ec77f08d4c", func := "loop.example/pagebuilder/laws.FnLinesBoxes", spec := "fnLinesBoxes", unfollowed := true, recurses := true, plainKeys := false, apart := false }
def FnLinesBoxesSaid : Prop := fnLinesBoxesRow.holds Try.pinned (OpenSpec.ofChange fnLinesBoxesSpec)

/-- ITS FALSE NEIGHBOUR: 'it returns false'. Refute it at one input. -/
def fnLinesBoxesWrong : ChangeSpec := { name := "fnLinesBoxes", fn := fun _ => fun
  | [d] => { results := [.lit (.bool false)], args := [d] }
  | _ => none }
def FnLinesBoxesWrongFalsely : Prop := fnLinesBoxesRow.holds Try.pinned (OpenSpec.ofChange fnLinesBoxesWrong)

/-- 'laws.FnBestLines': WHATEVER THE INPUT: true; the input reads as it did. -/
def fnBestLinesSpec : ChangeSpec := { name := "fnBestLines", fn := fun _ => fun
  | [d] => { results := [.lit (.bool true)], args := [d] }
  | _ => none }
def fnBestLinesRow : OpenClaim := { program := "ytlklkloadefihaa", sum := "d65561791e78507b8cd8b78f2260c3177392006dfd817cfa194421ec77f08d4c", func := "loop.example/pagebuilder/laws.FnBestLines", spec := "fnBestLines", unfollowed := true, recurses := true, plainKeys := false, apart := false }
def FnBestLinesSaid : Prop := fnBestLinesRow.holds Try.pinned (OpenSpec.ofChange fnBestLinesSpec)

/-- ITS FALSE NEIGHBOUR: 'it returns false'. Refute it at one input. -/
def fnBestLinesWrong : ChangeSpec := { name := "fnBestLines", fn := fun _ => fun
  | [d] => { results := [.lit (.bool false)], args := [d] }
  | _ => none }
def FnBestLinesWrongFalsely : Prop := fnBestLinesRow.holds Try.pinned (OpenSpec.ofChange fnBestLinesWrong)

/- THE SECOND FORM. 'bulk': how many values and letters a reading holds, each counted each time it is reached (what is shared counts as often as it is met; a slice's spare places count too). A statement '..UptoSaid' is the law's where the arguments, and the package variables that the reading takes, are together of bulk at most 1048576: NARROWER than '..Said'. Prove '..Said' where nothing that the law and all that it calls make is longer than what came in: it says more and counts as full. Else prove '..UptoSaid'. A law counts once. -/
mutual
def uptoBulk {H : Type} : DataW H → Nat
  | .lit (.string bytes) => bytes.length + 1
  | .lit _ => 1
  | .nil => 1
  | .ptr d => uptoBulk d + 1
  | .slice elems spare => uptoBulkAll elems + uptoBulkAll spare + 1
  | .agg parts => uptoBulkAll parts + 1
  | .iface _ d => uptoBulk d + 1
  | .map entries => uptoBulkEntries entries + 1
  | .held _ => 1
def uptoBulkAll {H : Type} : List (DataW H) → Nat
  | [] => 0
  | d :: r => uptoBulk d + uptoBulkAll r
def uptoBulkEntries {H : Type} : List (Lit × DataW H) → Nat
  | [] => 0
  | x :: r => uptoBulkEntry x + uptoBulkEntries r
def uptoBulkEntry {H : Type} : Lit × DataW H → Nat
  | (.string bytes, d) => bytes.length + uptoBulk d + 1
  | (_, d) => uptoBulk d + 1
 end
def uptoSmall : (H : Type) → List (DataW H) → Bool := fun _ ds => decide (uptoBulkAll ds ≤ 1048576)
def OpenSpec.upto (s : _root_.Go.ChangeSpec) : _root_.Go.OpenSpec := { _root_.Go.OpenSpec.ofChange s with cond := some uptoSmall }

/-- 'laws.FnLineBadness', WHERE WHAT IT READS IS OF BULK AT MOST 1048576: true; the input reads as it did. -/
def fnLineBadnessUptoRow : OpenClaim := { program := "ytlklkloadefihaa", sum := "d65561791e78507b8cd8b78f2260c3177392006dfd817cfa194421ec77f08d4c", func := "loop.example/pagebuilder/laws.FnLineBadness", spec := "fnLineBadness", plainKeys := false, apart := false, narrowed := true }
def FnLineBadnessUptoSaid : Prop := fnLineBadnessUptoRow.holds Try.pinned (OpenSpec.upto fnLineBadnessSpec)

/-- 'laws.FnLineBadnesses', WHERE WHAT IT READS IS OF BULK AT MOST 1048576: true; the input reads as it did. -/
def fnLineBadnessesUptoRow : OpenClaim := { program := "ytlklkloadefihaa", sum := "d65561791e78507b8cd8b78f2260c3177392006dfd817cfa194421ec77f08d4c", func := "loop.example/pagebuilder/laws.FnLineBadnesses", spec := "fnLineBadnesses", plainKeys := false, apart := false, narrowed := true }
def FnLineBadnessesUptoSaid : Prop := fnLineBadnessesUptoRow.holds Try.pinned (OpenSpec.upto fnLineBadnessesSpec)

/-- 'laws.FnLineIsFull', WHERE WHAT IT READS IS OF BULK AT MOST 1048576: true; the input reads as it did. -/
def fnLineIsFullUptoRow : OpenClaim := { program := "ytlklkloadefihaa", sum := "d65561791e78507b8cd8b78f2260c3177392006dfd817cfa194421ec77f08d4c", func := "loop.example/pagebuilder/laws.FnLineIsFull", spec := "fnLineIsFull", unfollowed := true, recurses := true, plainKeys := false, apart := false, narrowed := true }
def FnLineIsFullUptoSaid : Prop := fnLineIsFullUptoRow.holds Try.pinned (OpenSpec.upto fnLineIsFullSpec)

/-- 'laws.FnFirstBreaks', WHERE WHAT IT READS IS OF BULK AT MOST 1048576: true; the input reads as it did. -/
def fnFirstBreaksUptoRow : OpenClaim := { program := "ytlklkloadefihaa", sum := "d65561791e78507b8cd8b78f2260c3177392006dfd817cfa194421ec77f08d4c", func := "loop.example/pagebuilder/laws.FnFirstBreaks", spec := "fnFirstBreaks", recurses := true, plainKeys := false, apart := false, narrowed := true }
def FnFirstBreaksUptoSaid : Prop := fnFirstBreaksUptoRow.holds Try.pinned (OpenSpec.upto fnFirstBreaksSpec)

/-- 'laws.FnSetLine', WHERE WHAT IT READS IS OF BULK AT MOST 1048576: true; the input reads as it did. -/
def fnSetLineUptoRow : OpenClaim := { program := "ytlklkloadefihaa", sum := "d65561791e78507b8cd8b78f2260c3177392006dfd817cfa194421ec77f08d4c", func := "loop.example/pagebuilder/laws.FnSetLine", spec := "fnSetLine", unfollowed := true, recurses := true, plainKeys := false, apart := false, narrowed := true }
def FnSetLineUptoSaid : Prop := fnSetLineUptoRow.holds Try.pinned (OpenSpec.upto fnSetLineSpec)

/-- 'laws.FnBreaksCost', WHERE WHAT IT READS IS OF BULK AT MOST 1048576: true; the input reads as it did. -/
def fnBreaksCostUptoRow : OpenClaim := { program := "ytlklkloadefihaa", sum := "d65561791e78507b8cd8b78f2260c3177392006dfd817cfa194421ec77f08d4c", func := "loop.example/pagebuilder/laws.FnBreaksCost", spec := "fnBreaksCost", plainKeys := false, apart := false, narrowed := true }
def FnBreaksCostUptoSaid : Prop := fnBreaksCostUptoRow.holds Try.pinned (OpenSpec.upto fnBreaksCostSpec)

/-- 'laws.FnBreaksMost', WHERE WHAT IT READS IS OF BULK AT MOST 1048576: true; the input reads as it did. -/
def fnBreaksMostUptoRow : OpenClaim := { program := "ytlklkloadefihaa", sum := "d65561791e78507b8cd8b78f2260c3177392006dfd817cfa194421ec77f08d4c", func := "loop.example/pagebuilder/laws.FnBreaksMost", spec := "fnBreaksMost", recurses := true, plainKeys := false, apart := false, narrowed := true }
def FnBreaksMostUptoSaid : Prop := fnBreaksMostUptoRow.holds Try.pinned (OpenSpec.upto fnBreaksMostSpec)

/-- 'laws.FnBestBreaks', WHERE WHAT IT READS IS OF BULK AT MOST 1048576: true; the input reads as it did. -/
def fnBestBreaksUptoRow : OpenClaim := { program := "ytlklkloadefihaa", sum := "d65561791e78507b8cd8b78f2260c3177392006dfd817cfa194421ec77f08d4c", func := "loop.example/pagebuilder/laws.FnBestBreaks", spec := "fnBestBreaks", recurses := true, plainKeys := false, apart := false, narrowed := true }
def FnBestBreaksUptoSaid : Prop := fnBestBreaksUptoRow.holds Try.pinned (OpenSpec.upto fnBestBreaksSpec)

/-- 'laws.FnLinesBoxes', WHERE WHAT IT READS IS OF BULK AT MOST 1048576: true; the input reads as it did. -/
def fnLinesBoxesUptoRow : OpenClaim := { program := "ytlklkloadefihaa", sum := "d65561791e78507b8cd8b78f2260c3177392006dfd817cfa194421ec77f08d4c", func := "loop.example/pagebuilder/laws.FnLinesBoxes", spec := "fnLinesBoxes", unfollowed := true, recurses := true, plainKeys := false, apart := false, narrowed := true }
def FnLinesBoxesUptoSaid : Prop := fnLinesBoxesUptoRow.holds Try.pinned (OpenSpec.upto fnLinesBoxesSpec)

/-- 'laws.FnBestLines', WHERE WHAT IT READS IS OF BULK AT MOST 1048576: true; the input reads as it did. -/
def fnBestLinesUptoRow : OpenClaim := { program := "ytlklkloadefihaa", sum := "d65561791e78507b8cd8b78f2260c3177392006dfd817cfa194421ec77f08d4c", func := "loop.example/pagebuilder/laws.FnBestLines", spec := "fnBestLines", unfollowed := true, recurses := true, plainKeys := false, apart := false, narrowed := true }
def FnBestLinesUptoSaid : Prop := fnBestLinesUptoRow.holds Try.pinned (OpenSpec.upto fnBestLinesSpec)

end Rows
end Go.Proofs.Ytlklkloadefihaa
