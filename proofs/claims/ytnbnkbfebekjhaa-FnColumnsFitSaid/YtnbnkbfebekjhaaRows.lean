/-
  No cell of these rows narrows 'for every input' (looked for: loops, veiled, ifaces, maps, wideKeys, modest, calm, conditions, laid).
  DERIVED. THE GIVEN ROWS OF THIS SEAT. 7 by the template 'for every input the law returns true; each argument reads behind the call as it read before'; 0 by the template 'total and deterministic' (their statements: YtnbnkbfebekjhaaTotals.lean).
  GIVEN WITH THE SEED: the statements are not yours to turn. If you find one false, say at which input.
  Laid BY PROGRAM, IN A SANDBOX (cutbox-rows.mjs): the forced cells as the released guide's own fill.sh prints them over the translation ec5d0abb8a4a1644… (all of the seat's roots in one cut). By AI agents, Wed Nov 11 2026. No macro, syntax, notation, axiom, sorry.
-/
import Derived.Test.YtnbnkbfebekjhaaChecked
import GoSem.Claim
import GoSem.ClaimJoined
import GoSem.ClaimMapViews
import Derived.JoinedTies
import Derived.KernelRfl
namespace Go.Proofs.Ytnbnkbfebekjhaa
/- THE CELL 'sum', in the pinned program and in every row, IS THE sha256 OF THE DUMP (.gsa) THAT YtnbnkbfebekjhaaProg.lean LOADS. Nothing in Lean hashes anything: it is a label: what it is worth is what the hold of that sum in a sandbox is worth. -/
noncomputable def Try.pinned : Pinned := { name := "ytnbnkbfebekjhaa", sum := "ec5d0abb8a4a1644e3b9a5945e5aaeeb52fcf9dbe8480dc8f59daed929eabfc8", checked := Try.checked }
namespace Rows
def none {H : Type} : Left H := { results := [], args := [] }

/-- 'laws.FnExactColumnsFit': WHATEVER THE INPUT: true; the input reads as it did. -/
def fnExactColumnsFitSpec : ChangeSpec := { name := "fnExactColumnsFit", fn := fun _ => fun
  | [d1, d2, d3] => { results := [.lit (.bool true)], args := [d1, d2, d3] }
  | _ => none }
def fnExactColumnsFitRow : OpenClaim := { program := "ytnbnkbfebekjhaa", sum := "ec5d0abb8a4a1644e3b9a5945e5aaeeb52fcf9dbe8480dc8f59daed929eabfc8", func := "loop.example/pagebuilder/laws.FnExactColumnsFit", spec := "fnExactColumnsFit", apart := false }
def FnExactColumnsFitSaid : Prop := fnExactColumnsFitRow.holds Try.pinned (OpenSpec.ofChange fnExactColumnsFitSpec)

/-- ITS FALSE NEIGHBOUR: 'it returns false'. Refute it at one input. -/
def fnExactColumnsFitWrong : ChangeSpec := { name := "fnExactColumnsFit", fn := fun _ => fun
  | [d1, d2, d3] => { results := [.lit (.bool false)], args := [d1, d2, d3] }
  | _ => none }
def FnExactColumnsFitWrongFalsely : Prop := fnExactColumnsFitRow.holds Try.pinned (OpenSpec.ofChange fnExactColumnsFitWrong)

/-- 'laws.FnColumnsFit': WHATEVER THE INPUT: true; the input reads as it did. -/
def fnColumnsFitSpec : ChangeSpec := { name := "fnColumnsFit", fn := fun _ => fun
  | [d] => { results := [.lit (.bool true)], args := [d] }
  | _ => none }
def fnColumnsFitRow : OpenClaim := { program := "ytnbnkbfebekjhaa", sum := "ec5d0abb8a4a1644e3b9a5945e5aaeeb52fcf9dbe8480dc8f59daed929eabfc8", func := "loop.example/pagebuilder/laws.FnColumnsFit", spec := "fnColumnsFit", apart := false }
def FnColumnsFitSaid : Prop := fnColumnsFitRow.holds Try.pinned (OpenSpec.ofChange fnColumnsFitSpec)

/-- ITS FALSE NEIGHBOUR: 'it returns false'. Refute it at one input. -/
def fnColumnsFitWrong : ChangeSpec := { name := "fnColumnsFit", fn := fun _ => fun
  | [d] => { results := [.lit (.bool false)], args := [d] }
  | _ => none }
def FnColumnsFitWrongFalsely : Prop := fnColumnsFitRow.holds Try.pinned (OpenSpec.ofChange fnColumnsFitWrong)

/-- 'laws.FnExactBalanceRows': WHATEVER THE INPUT: true; the input reads as it did. -/
def fnExactBalanceRowsSpec : ChangeSpec := { name := "fnExactBalanceRows", fn := fun _ => fun
  | [d1, d2] => { results := [.lit (.bool true)], args := [d1, d2] }
  | _ => none }
def fnExactBalanceRowsRow : OpenClaim := { program := "ytnbnkbfebekjhaa", sum := "ec5d0abb8a4a1644e3b9a5945e5aaeeb52fcf9dbe8480dc8f59daed929eabfc8", func := "loop.example/pagebuilder/laws.FnExactBalanceRows", spec := "fnExactBalanceRows", apart := false }
def FnExactBalanceRowsSaid : Prop := fnExactBalanceRowsRow.holds Try.pinned (OpenSpec.ofChange fnExactBalanceRowsSpec)

/-- ITS FALSE NEIGHBOUR: 'it returns false'. Refute it at one input. -/
def fnExactBalanceRowsWrong : ChangeSpec := { name := "fnExactBalanceRows", fn := fun _ => fun
  | [d1, d2] => { results := [.lit (.bool false)], args := [d1, d2] }
  | _ => none }
def FnExactBalanceRowsWrongFalsely : Prop := fnExactBalanceRowsRow.holds Try.pinned (OpenSpec.ofChange fnExactBalanceRowsWrong)

/-- 'laws.FnBalanceRows': WHATEVER THE INPUT: true; the input reads as it did. -/
def fnBalanceRowsSpec : ChangeSpec := { name := "fnBalanceRows", fn := fun _ => fun
  | [d] => { results := [.lit (.bool true)], args := [d] }
  | _ => none }
def fnBalanceRowsRow : OpenClaim := { program := "ytnbnkbfebekjhaa", sum := "ec5d0abb8a4a1644e3b9a5945e5aaeeb52fcf9dbe8480dc8f59daed929eabfc8", func := "loop.example/pagebuilder/laws.FnBalanceRows", spec := "fnBalanceRows", apart := false }
def FnBalanceRowsSaid : Prop := fnBalanceRowsRow.holds Try.pinned (OpenSpec.ofChange fnBalanceRowsSpec)

/-- ITS FALSE NEIGHBOUR: 'it returns false'. Refute it at one input. -/
def fnBalanceRowsWrong : ChangeSpec := { name := "fnBalanceRows", fn := fun _ => fun
  | [d] => { results := [.lit (.bool false)], args := [d] }
  | _ => none }
def FnBalanceRowsWrongFalsely : Prop := fnBalanceRowsRow.holds Try.pinned (OpenSpec.ofChange fnBalanceRowsWrong)

/-- 'laws.FnColumnOne': WHATEVER THE INPUT: true; the input reads as it did. -/
def fnColumnOneSpec : ChangeSpec := { name := "fnColumnOne", fn := fun _ => fun
  | [d] => { results := [.lit (.bool true)], args := [d] }
  | _ => none }
def fnColumnOneRow : OpenClaim := { program := "ytnbnkbfebekjhaa", sum := "ec5d0abb8a4a1644e3b9a5945e5aaeeb52fcf9dbe8480dc8f59daed929eabfc8", func := "loop.example/pagebuilder/laws.FnColumnOne", spec := "fnColumnOne", apart := false }
def FnColumnOneSaid : Prop := fnColumnOneRow.holds Try.pinned (OpenSpec.ofChange fnColumnOneSpec)

/-- ITS FALSE NEIGHBOUR: 'it returns false'. Refute it at one input. -/
def fnColumnOneWrong : ChangeSpec := { name := "fnColumnOne", fn := fun _ => fun
  | [d] => { results := [.lit (.bool false)], args := [d] }
  | _ => none }
def FnColumnOneWrongFalsely : Prop := fnColumnOneRow.holds Try.pinned (OpenSpec.ofChange fnColumnOneWrong)

/-- 'laws.FnExactBalanceColumns': WHATEVER THE INPUT: true; the input reads as it did. -/
def fnExactBalanceColumnsSpec : ChangeSpec := { name := "fnExactBalanceColumns", fn := fun _ => fun
  | [d1, d2] => { results := [.lit (.bool true)], args := [d1, d2] }
  | _ => none }
def fnExactBalanceColumnsRow : OpenClaim := { program := "ytnbnkbfebekjhaa", sum := "ec5d0abb8a4a1644e3b9a5945e5aaeeb52fcf9dbe8480dc8f59daed929eabfc8", func := "loop.example/pagebuilder/laws.FnExactBalanceColumns", spec := "fnExactBalanceColumns", apart := false }
def FnExactBalanceColumnsSaid : Prop := fnExactBalanceColumnsRow.holds Try.pinned (OpenSpec.ofChange fnExactBalanceColumnsSpec)

/-- ITS FALSE NEIGHBOUR: 'it returns false'. Refute it at one input. -/
def fnExactBalanceColumnsWrong : ChangeSpec := { name := "fnExactBalanceColumns", fn := fun _ => fun
  | [d1, d2] => { results := [.lit (.bool false)], args := [d1, d2] }
  | _ => none }
def FnExactBalanceColumnsWrongFalsely : Prop := fnExactBalanceColumnsRow.holds Try.pinned (OpenSpec.ofChange fnExactBalanceColumnsWrong)

/-- 'laws.FnBalanceColumns': WHATEVER THE INPUT: true; the input reads as it did. -/
def fnBalanceColumnsSpec : ChangeSpec := { name := "fnBalanceColumns", fn := fun _ => fun
  | [d] => { results := [.lit (.bool true)], args := [d] }
  | _ => none }
def fnBalanceColumnsRow : OpenClaim := { program := "ytnbnkbfebekjhaa", sum := "ec5d0abb8a4a1644e3b9a5945e5aaeeb52fcf9dbe8480dc8f59daed929eabfc8", func := "loop.example/pagebuilder/laws.FnBalanceColumns", spec := "fnBalanceColumns", apart := false }
def FnBalanceColumnsSaid : Prop := fnBalanceColumnsRow.holds Try.pinned (OpenSpec.ofChange fnBalanceColumnsSpec)

/-- ITS FALSE NEIGHBOUR: 'it returns false'. Refute it at one input. -/
def fnBalanceColumnsWrong : ChangeSpec := { name := "fnBalanceColumns", fn := fun _ => fun
  | [d] => { results := [.lit (.bool false)], args := [d] }
  | _ => none }
def FnBalanceColumnsWrongFalsely : Prop := fnBalanceColumnsRow.holds Try.pinned (OpenSpec.ofChange fnBalanceColumnsWrong)

/- THE SECOND FORM. 'bulk': how many values and letters a reading holds, each counted each time it is reached (what is shared counts as often as it is met; a slice's spare places count too). A statement '..UptoSaid' is the law's where the arguments, and the package variables that the reading takes, are together of bulk at most 1048576: NARROWER than '..Said'. Prove '..Said' where nothing that the law and all that it calls make is longer than what came in: it says more and counts as full. Else prove '..UptoSaid'. A law counts once. -/
mutual
def uptoBulk {H : Type} : DataW H → Nat
  | .lit (.string bytes) => bytes.length + 1
  | .lit _ => 1
  | .nil => 1
  | .ptr d => uptoBulk d + 1
  | .slice elems spare => uptoBulkAll elems + uptoBulkAll spare + 1
  | .agg parts => uptoBulkAll parts + 1
  | .iface _ d => uptoBulk d + 1
  | .map entries => uptoBulkEntries entries + 1
  | .held _ => 1
def uptoBulkAll {H : Type} : List (DataW H) → Nat
  | [] => 0
  | d :: r => uptoBulk d + uptoBulkAll r
def uptoBulkEntries {H : Type} : List (Lit × DataW H) → Nat
  | [] => 0
  | x :: r => uptoBulkEntry x + uptoBulkEntries r
def uptoBulkEntry {H : Type} : Lit × DataW H → Nat
  | (.string bytes, d) => bytes.length + uptoBulk d + 1
  | (_, d) => uptoBulk d + 1
 end
def uptoSmall : (H : Type) → List (DataW H) → Bool := fun _ ds => decide (uptoBulkAll ds ≤ 1048576)
def OpenSpec.upto (s : _root_.Go.ChangeSpec) : _root_.Go.OpenSpec := { _root_.Go.OpenSpec.ofChange s with cond := some uptoSmall }

/-- 'laws.FnExactColumnsFit', WHERE WHAT IT READS IS OF BULK AT MOST 1048576: true; the input reads as it did. -/
def fnExactColumnsFitUptoRow : OpenClaim := { program := "ytnbnkbfebekjhaa", sum := "ec5d0abb8a4a1644e3b9a5945e5aaeeb52fcf9dbe8480dc8f59daed929eabfc8", func := "loop.example/pagebuilder/laws.FnExactColumnsFit", spec := "fnExactColumnsFit", apart := false, narrowed := true }
def FnExactColumnsFitUptoSaid : Prop := fnExactColumnsFitUptoRow.holds Try.pinned (OpenSpec.upto fnExactColumnsFitSpec)

/-- 'laws.FnColumnsFit', WHERE WHAT IT READS IS OF BULK AT MOST 1048576: true; the input reads as it did. -/
def fnColumnsFitUptoRow : OpenClaim := { program := "ytnbnkbfebekjhaa", sum := "ec5d0abb8a4a1644e3b9a5945e5aaeeb52fcf9dbe8480dc8f59daed929eabfc8", func := "loop.example/pagebuilder/laws.FnColumnsFit", spec := "fnColumnsFit", apart := false, narrowed := true }
def FnColumnsFitUptoSaid : Prop := fnColumnsFitUptoRow.holds Try.pinned (OpenSpec.upto fnColumnsFitSpec)

/-- 'laws.FnExactBalanceRows', WHERE WHAT IT READS IS OF BULK AT MOST 1048576: true; the input reads as it did. -/
def fnExactBalanceRowsUptoRow : OpenClaim := { program := "ytnbnkbfebekjhaa", sum := "ec5d0abb8a4a1644e3b9a5945e5aaeeb52fcf9dbe8480dc8f59daed929eabfc8", func := "loop.example/pagebuilder/laws.FnExactBalanceRows", spec := "fnExactBalanceRows", apart := false, narrowed := true }
def FnExactBalanceRowsUptoSaid : Prop := fnExactBalanceRowsUptoRow.holds Try.pinned (OpenSpec.upto fnExactBalanceRowsSpec)

/-- 'laws.FnBalanceRows', WHERE WHAT IT READS IS OF BULK AT MOST 1048576: true; the input reads as it did. -/
def fnBalanceRowsUptoRow : OpenClaim := { program := "ytnbnkbfebekjhaa", sum := "ec5d0abb8a4a1644e3b9a5945e5aaeeb52fcf9dbe8480dc8f59daed929eabfc8", func := "loop.example/pagebuilder/laws.FnBalanceRows", spec := "fnBalanceRows", apart := false, narrowed := true }
def FnBalanceRowsUptoSaid : Prop := fnBalanceRowsUptoRow.holds Try.pinned (OpenSpec.upto fnBalanceRowsSpec)

/-- 'laws.FnColumnOne', WHERE WHAT IT READS IS OF BULK AT MOST 1048576: true; the input reads as it did. -/
def fnColumnOneUptoRow : OpenClaim := { program := "ytnbnkbfebekjhaa", sum := "ec5d0abb8a4a1644e3b9a5945e5aaeeb52fcf9dbe8480dc8f59daed929eabfc8", func := "loop.example/pagebuilder/laws.FnColumnOne", spec := "fnColumnOne", apart := false, narrowed := true }
def FnColumnOneUptoSaid : Prop := fnColumnOneUptoRow.holds Try.pinned (OpenSpec.upto fnColumnOneSpec)

/-- 'laws.FnExactBalanceColumns', WHERE WHAT IT READS IS OF BULK AT MOST 1048576: true; the input reads as it did. -/
def fnExactBalanceColumnsUptoRow : OpenClaim := { program := "ytnbnkbfebekjhaa", sum := "ec5d0abb8a4a1644e3b9a5945e5aaeeb52fcf9dbe8480dc8f59daed929eabfc8", func := "loop.example/pagebuilder/laws.FnExactBalanceColumns", spec := "fnExactBalanceColumns", apart := false, narrowed := true }
def FnExactBalanceColumnsUptoSaid : Prop := fnExactBalanceColumnsUptoRow.holds Try.pinned (OpenSpec.upto fnExactBalanceColumnsSpec)

/-- 'laws.FnBalanceColumns', WHERE WHAT IT READS IS OF BULK AT MOST 1048576: true; the input reads as it did. -/
def fnBalanceColumnsUptoRow : OpenClaim := { program := "ytnbnkbfebekjhaa", sum := "ec5d0abb8a4a1644e3b9a5945e5aaeeb52fcf9dbe8480dc8f59daed929eabfc8", func := "loop.example/pagebuilder/laws.FnBalanceColumns", spec := "fnBalanceColumns", apart := false, narrowed := true }
def FnBalanceColumnsUptoSaid : Prop := fnBalanceColumnsUptoRow.holds Try.pinned (OpenSpec.upto fnBalanceColumnsSpec)

end Rows
end Go.Proofs.Ytnbnkbfebekjhaa
