/-
  No cell of these rows narrows 'for every input' (looked for: loops, veiled, ifaces, maps, wideKeys, modest, calm, conditions, laid).
  DERIVED. THE GIVEN ROWS OF THIS SEAT. 6 by the template 'for every input the law returns true; each argument reads behind the call as it read before'; 0 by the template 'total and deterministic' (their statements: YtadcbigioldejaaTotals.lean).
  GIVEN WITH THE SEED: the statements are not yours to turn. If you find one false, say at which input.
  Laid BY PROGRAM, IN A SANDBOX (cutbox-rows.mjs): the forced cells as the released guide's own fill.sh prints them over the translation e8b266c1216c0396… (all of the seat's roots in one cut). By AI agents, Wed Nov 11 2026. No macro, syntax, notation, axiom, sorry.
-/
import Derived.Test.YtadcbigioldejaaChecked
import GoSem.Claim
import GoSem.ClaimJoined
import GoSem.ClaimMapViews
import Derived.JoinedTies
import Derived.KernelRfl
namespace Go.Proofs.Ytadcbigioldejaa
/- THE CELL 'sum', in the pinned program and in every row, IS THE sha256 OF THE DUMP (.gsa) THAT YtadcbigioldejaaProg.lean LOADS. Nothing in Lean hashes anything: it is a label: what it is worth is what the hold of that sum in a sandbox is worth. -/
noncomputable def Try.pinned : Pinned := { name := "ytadcbigioldejaa", sum := "e8b266c1216c0396683273b5a0c964950919fba80f2c5c7e6d2d46d1c6af4813", checked := Try.checked }
namespace Rows
def none {H : Type} : Left H := { results := [], args := [] }

/-- 'laws.FnExactLineBadnesses': WHATEVER THE INPUT: true; the input reads as it did. -/
def fnExactLineBadnessesSpec : ChangeSpec := { name := "fnExactLineBadnesses", fn := fun _ => fun
  | [d1, d2, d3] => { results := [.lit (.bool true)], args := [d1, d2, d3] }
  | _ => none }
def fnExactLineBadnessesRow : OpenClaim := { program := "ytadcbigioldejaa", sum := "e8b266c1216c0396683273b5a0c964950919fba80f2c5c7e6d2d46d1c6af4813", func := "loop.example/pagebuilder/laws.FnExactLineBadnesses", spec := "fnExactLineBadnesses", plainKeys := false, apart := false }
def FnExactLineBadnessesSaid : Prop := fnExactLineBadnessesRow.holds Try.pinned (OpenSpec.ofChange fnExactLineBadnessesSpec)

/-- ITS FALSE NEIGHBOUR: 'it returns false'. Refute it at one input. -/
def fnExactLineBadnessesWrong : ChangeSpec := { name := "fnExactLineBadnesses", fn := fun _ => fun
  | [d1, d2, d3] => { results := [.lit (.bool false)], args := [d1, d2, d3] }
  | _ => none }
def FnExactLineBadnessesWrongFalsely : Prop := fnExactLineBadnessesRow.holds Try.pinned (OpenSpec.ofChange fnExactLineBadnessesWrong)

/-- 'laws.FnExactFirstBreaks': WHATEVER THE INPUT: true; the input reads as it did. -/
def fnExactFirstBreaksSpec : ChangeSpec := { name := "fnExactFirstBreaks", fn := fun _ => fun
  | [d1, d2, d3] => { results := [.lit (.bool true)], args := [d1, d2, d3] }
  | _ => none }
def fnExactFirstBreaksRow : OpenClaim := { program := "ytadcbigioldejaa", sum := "e8b266c1216c0396683273b5a0c964950919fba80f2c5c7e6d2d46d1c6af4813", func := "loop.example/pagebuilder/laws.FnExactFirstBreaks", spec := "fnExactFirstBreaks", plainKeys := false, apart := false }
def FnExactFirstBreaksSaid : Prop := fnExactFirstBreaksRow.holds Try.pinned (OpenSpec.ofChange fnExactFirstBreaksSpec)

/-- ITS FALSE NEIGHBOUR: 'it returns false'. Refute it at one input. -/
def fnExactFirstBreaksWrong : ChangeSpec := { name := "fnExactFirstBreaks", fn := fun _ => fun
  | [d1, d2, d3] => { results := [.lit (.bool false)], args := [d1, d2, d3] }
  | _ => none }
def FnExactFirstBreaksWrongFalsely : Prop := fnExactFirstBreaksRow.holds Try.pinned (OpenSpec.ofChange fnExactFirstBreaksWrong)

/-- 'laws.FnExactLineIsFull': WHATEVER THE INPUT: true; the input reads as it did. -/
def fnExactLineIsFullSpec : ChangeSpec := { name := "fnExactLineIsFull", fn := fun _ => fun
  | [d1, d2, d3, d4] => { results := [.lit (.bool true)], args := [d1, d2, d3, d4] }
  | _ => none }
def fnExactLineIsFullRow : OpenClaim := { program := "ytadcbigioldejaa", sum := "e8b266c1216c0396683273b5a0c964950919fba80f2c5c7e6d2d46d1c6af4813", func := "loop.example/pagebuilder/laws.FnExactLineIsFull", spec := "fnExactLineIsFull", unfollowed := true, recurses := true, plainKeys := false, apart := false }
def FnExactLineIsFullSaid : Prop := fnExactLineIsFullRow.holds Try.pinned (OpenSpec.ofChange fnExactLineIsFullSpec)

/-- ITS FALSE NEIGHBOUR: 'it returns false'. Refute it at one input. -/
def fnExactLineIsFullWrong : ChangeSpec := { name := "fnExactLineIsFull", fn := fun _ => fun
  | [d1, d2, d3, d4] => { results := [.lit (.bool false)], args := [d1, d2, d3, d4] }
  | _ => none }
def FnExactLineIsFullWrongFalsely : Prop := fnExactLineIsFullRow.holds Try.pinned (OpenSpec.ofChange fnExactLineIsFullWrong)

/-- 'laws.FnExactBreaksCost': WHATEVER THE INPUT: true; the input reads as it did. -/
def fnExactBreaksCostSpec : ChangeSpec := { name := "fnExactBreaksCost", fn := fun _ => fun
  | [d1, d2, d3, d4] => { results := [.lit (.bool true)], args := [d1, d2, d3, d4] }
  | _ => none }
def fnExactBreaksCostRow : OpenClaim := { program := "ytadcbigioldejaa", sum := "e8b266c1216c0396683273b5a0c964950919fba80f2c5c7e6d2d46d1c6af4813", func := "loop.example/pagebuilder/laws.FnExactBreaksCost", spec := "fnExactBreaksCost", plainKeys := false, apart := false }
def FnExactBreaksCostSaid : Prop := fnExactBreaksCostRow.holds Try.pinned (OpenSpec.ofChange fnExactBreaksCostSpec)

/-- ITS FALSE NEIGHBOUR: 'it returns false'. Refute it at one input. -/
def fnExactBreaksCostWrong : ChangeSpec := { name := "fnExactBreaksCost", fn := fun _ => fun
  | [d1, d2, d3, d4] => { results := [.lit (.bool false)], args := [d1, d2, d3, d4] }
  | _ => none }
def FnExactBreaksCostWrongFalsely : Prop := fnExactBreaksCostRow.holds Try.pinned (OpenSpec.ofChange fnExactBreaksCostWrong)

/-- 'laws.FnExactSetLine': WHATEVER THE INPUT: true; the input reads as it did. -/
def fnExactSetLineSpec : ChangeSpec := { name := "fnExactSetLine", fn := fun _ => fun
  | [d1, d2, d3, d4] => { results := [.lit (.bool true)], args := [d1, d2, d3, d4] }
  | _ => none }
def fnExactSetLineRow : OpenClaim := { program := "ytadcbigioldejaa", sum := "e8b266c1216c0396683273b5a0c964950919fba80f2c5c7e6d2d46d1c6af4813", func := "loop.example/pagebuilder/laws.FnExactSetLine", spec := "fnExactSetLine", unfollowed := true, recurses := true, plainKeys := false, apart := false }
def FnExactSetLineSaid : Prop := fnExactSetLineRow.holds Try.pinned (OpenSpec.ofChange fnExactSetLineSpec)

/-- ITS FALSE NEIGHBOUR: 'it returns false'. Refute it at one input. -/
def fnExactSetLineWrong : ChangeSpec := { name := "fnExactSetLine", fn := fun _ => fun
  | [d1, d2, d3, d4] => { results := [.lit (.bool false)], args := [d1, d2, d3, d4] }
  | _ => none }
def FnExactSetLineWrongFalsely : Prop := fnExactSetLineRow.holds Try.pinned (OpenSpec.ofChange fnExactSetLineWrong)

/-- 'laws.FnExactBestBreaks': WHATEVER THE INPUT: true; the input reads as it did. -/
def fnExactBestBreaksSpec : ChangeSpec := { name := "fnExactBestBreaks", fn := fun _ => fun
  | [d1, d2, d3] => { results := [.lit (.bool true)], args := [d1, d2, d3] }
  | _ => none }
def fnExactBestBreaksRow : OpenClaim := { program := "ytadcbigioldejaa", sum := "e8b266c1216c0396683273b5a0c964950919fba80f2c5c7e6d2d46d1c6af4813", func := "loop.example/pagebuilder/laws.FnExactBestBreaks", spec := "fnExactBestBreaks", recurses := true, plainKeys := false, apart := false }
def FnExactBestBreaksSaid : Prop := fnExactBestBreaksRow.holds Try.pinned (OpenSpec.ofChange fnExactBestBreaksSpec)

/-- ITS FALSE NEIGHBOUR: 'it returns false'. Refute it at one input. -/
def fnExactBestBreaksWrong : ChangeSpec := { name := "fnExactBestBreaks", fn := fun _ => fun
  | [d1, d2, d3] => { results := [.lit (.bool false)], args := [d1, d2, d3] }
  | _ => none }
def FnExactBestBreaksWrongFalsely : Prop := fnExactBestBreaksRow.holds Try.pinned (OpenSpec.ofChange fnExactBestBreaksWrong)

/- THE SECOND FORM. 'bulk': how many values and letters a reading holds, each counted each time it is reached (what is shared counts as often as it is met; a slice's spare places count too). A statement '..UptoSaid' is the law's where the arguments, and the package variables that the reading takes, are together of bulk at most 1048576: NARROWER than '..Said'. Prove '..Said' where nothing that the law and all that it calls make is longer than what came in: it says more and counts as full. Else prove '..UptoSaid'. A law counts once. -/
mutual
def uptoBulk {H : Type} : DataW H → Nat
  | .lit (.string bytes) => bytes.length + 1
  | .lit _ => 1
  | .nil => 1
  | .ptr d => uptoBulk d + 1
  | .slice elems spare => uptoBulkAll elems + uptoBulkAll spare + 1
  | .agg parts => uptoBulkAll parts + 1
  | .iface _ d => uptoBulk d + 1
  | .map entries => uptoBulkEntries entries + 1
  | .held _ => 1
def uptoBulkAll {H : Type} : List (DataW H) → Nat
  | [] => 0
  | d :: r => uptoBulk d + uptoBulkAll r
def uptoBulkEntries {H : Type} : List (Lit × DataW H) → Nat
  | [] => 0
  | x :: r => uptoBulkEntry x + uptoBulkEntries r
def uptoBulkEntry {H : Type} : Lit × DataW H → Nat
  | (.string bytes, d) => bytes.length + uptoBulk d + 1
  | (_, d) => uptoBulk d + 1
 end
def uptoSmall : (H : Type) → List (DataW H) → Bool := fun _ ds => decide (uptoBulkAll ds ≤ 1048576)
def OpenSpec.upto (s : _root_.Go.ChangeSpec) : _root_.Go.OpenSpec := { _root_.Go.OpenSpec.ofChange s with cond := some uptoSmall }

/-- 'laws.FnExactLineBadnesses', WHERE WHAT IT READS IS OF BULK AT MOST 1048576: true; the input reads as it did. -/
def fnExactLineBadnessesUptoRow : OpenClaim := { program := "ytadcbigioldejaa", sum := "e8b266c1216c0396683273b5a0c964950919fba80f2c5c7e6d2d46d1c6af4813", func := "loop.example/pagebuilder/laws.FnExactLineBadnesses", spec := "fnExactLineBadnesses", plainKeys := false, apart := false, narrowed := true }
def FnExactLineBadnessesUptoSaid : Prop := fnExactLineBadnessesUptoRow.holds Try.pinned (OpenSpec.upto fnExactLineBadnessesSpec)

/-- 'laws.FnExactFirstBreaks', WHERE WHAT IT READS IS OF BULK AT MOST 1048576: true; the input reads as it did. -/
def fnExactFirstBreaksUptoRow : OpenClaim := { program := "ytadcbigioldejaa", sum := "e8b266c1216c0396683273b5a0c964950919fba80f2c5c7e6d2d46d1c6af4813", func := "loop.example/pagebuilder/laws.FnExactFirstBreaks", spec := "fnExactFirstBreaks", plainKeys := false, apart := false, narrowed := true }
def FnExactFirstBreaksUptoSaid : Prop := fnExactFirstBreaksUptoRow.holds Try.pinned (OpenSpec.upto fnExactFirstBreaksSpec)

/-- 'laws.FnExactLineIsFull', WHERE WHAT IT READS IS OF BULK AT MOST 1048576: true; the input reads as it did. -/
def fnExactLineIsFullUptoRow : OpenClaim := { program := "ytadcbigioldejaa", sum := "e8b266c1216c0396683273b5a0c964950919fba80f2c5c7e6d2d46d1c6af4813", func := "loop.example/pagebuilder/laws.FnExactLineIsFull", spec := "fnExactLineIsFull", unfollowed := true, recurses := true, plainKeys := false, apart := false, narrowed := true }
def FnExactLineIsFullUptoSaid : Prop := fnExactLineIsFullUptoRow.holds Try.pinned (OpenSpec.upto fnExactLineIsFullSpec)

/-- 'laws.FnExactBreaksCost', WHERE WHAT IT READS IS OF BULK AT MOST 1048576: true; the input reads as it did. -/
def fnExactBreaksCostUptoRow : OpenClaim := { program := "ytadcbigioldejaa", sum := "e8b266c1216c0396683273b5a0c964950919fba80f2c5c7e6d2d46d1c6af4813", func := "loop.example/pagebuilder/laws.FnExactBreaksCost", spec := "fnExactBreaksCost", plainKeys := false, apart := false, narrowed := true }
def FnExactBreaksCostUptoSaid : Prop := fnExactBreaksCostUptoRow.holds Try.pinned (OpenSpec.upto fnExactBreaksCostSpec)

/-- 'laws.FnExactSetLine', WHERE WHAT IT READS IS OF BULK AT MOST 1048576: true; the input reads as it did. -/
def fnExactSetLineUptoRow : OpenClaim := { program := "ytadcbigioldejaa", sum := "e8b266c1216c0396683273b5a0c964950919fba80f2c5c7e6d2d46d1c6af4813", func := "loop.example/pagebuilder/laws.FnExactSetLine", spec := "fnExactSetLine", unfollowed := true, recurses := true, plainKeys := false, apart := false, narrowed := true }
def FnExactSetLineUptoSaid : Prop := fnExactSetLineUptoRow.holds Try.pinned (OpenSpec.upto fnExactSetLineSpec)

/-- 'laws.FnExactBestBreaks', WHERE WHAT IT READS IS OF BULK AT MOST 1048576: true; the input reads as it did. -/
def fnExactBestBreaksUptoRow : OpenClaim := { program := "ytadcbigioldejaa", sum := "e8b266c1216c0396683273b5a0c964950919fba80f2c5c7e6d2d46d1c6af4813", func := "loop.example/pagebuilder/laws.FnExactBestBreaks", spec := "fnExactBestBreaks", recurses := true, plainKeys := false, apart := false, narrowed := true }
def FnExactBestBreaksUptoSaid : Prop := fnExactBestBreaksUptoRow.holds Try.pinned (OpenSpec.upto fnExactBestBreaksSpec)

end Rows
end Go.Proofs.Ytadcbigioldejaa
