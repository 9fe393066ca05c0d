/-
  No cell of these rows narrows 'for every input' (looked for: loops, veiled, ifaces, maps, wideKeys, modest, calm, conditions, laid).
  DERIVED. THE GIVEN ROWS OF THIS SEAT. 12 by the template 'for every input the law returns true; each argument reads behind the call as it read before'; 0 by the template 'total and deterministic' (their statements: YtfpddjglnhkndaaTotals.lean).
  GIVEN WITH THE SEED: the statements are not yours to turn. If you find one false, say at which input.
  Laid BY PROGRAM, IN A SANDBOX (cutbox-rows.mjs): the forced cells as the released guide's own fill.sh prints them over the translation 31913af1dc96fc68… (all of the seat's roots in one cut). By AI agents, Wed Nov 11 2026. No macro, syntax, notation, axiom, sorry.
-/
import Derived.Test.YtfpddjglnhkndaaChecked
import GoSem.Claim
import GoSem.ClaimJoined
import GoSem.ClaimMapViews
import Derived.JoinedTies
import Derived.KernelRfl
namespace Go.Proofs.Ytfpddjglnhkndaa
/- THE CELL 'sum', in the pinned program and in every row, IS THE sha256 OF THE DUMP (.gsa) THAT YtfpddjglnhkndaaProg.lean LOADS. Nothing in Lean hashes anything: it is a label: what it is worth is what the hold of that sum in a sandbox is worth. -/
noncomputable def Try.pinned : Pinned := { name := "ytfpddjglnhkndaa", sum := "31913af1dc96fc6898c9edd11b7c35c0fe4c3acb52a5c752a6f3cbb97365fded", checked := Try.checked }
namespace Rows
def none {H : Type} : Left H := { results := [], args := [] }

/-- 'laws.FnExactRowValid': WHATEVER THE INPUT: true; the input reads as it did. -/
def fnExactRowValidSpec : ChangeSpec := { name := "fnExactRowValid", fn := fun _ => fun
  | [d] => { results := [.lit (.bool true)], args := [d] }
  | _ => none }
def fnExactRowValidRow : OpenClaim := { program := "ytfpddjglnhkndaa", sum := "31913af1dc96fc6898c9edd11b7c35c0fe4c3acb52a5c752a6f3cbb97365fded", func := "loop.example/pagebuilder/laws.FnExactRowValid", spec := "fnExactRowValid", apart := false }
def FnExactRowValidSaid : Prop := fnExactRowValidRow.holds Try.pinned (OpenSpec.ofChange fnExactRowValidSpec)

/-- ITS FALSE NEIGHBOUR: 'it returns false'. Refute it at one input. -/
def fnExactRowValidWrong : ChangeSpec := { name := "fnExactRowValid", fn := fun _ => fun
  | [d] => { results := [.lit (.bool false)], args := [d] }
  | _ => none }
def FnExactRowValidWrongFalsely : Prop := fnExactRowValidRow.holds Try.pinned (OpenSpec.ofChange fnExactRowValidWrong)

/-- 'laws.FnRowValid': WHATEVER THE INPUT: true; the input reads as it did. -/
def fnRowValidSpec : ChangeSpec := { name := "fnRowValid", fn := fun _ => fun
  | [d] => { results := [.lit (.bool true)], args := [d] }
  | _ => none }
def fnRowValidRow : OpenClaim := { program := "ytfpddjglnhkndaa", sum := "31913af1dc96fc6898c9edd11b7c35c0fe4c3acb52a5c752a6f3cbb97365fded", func := "loop.example/pagebuilder/laws.FnRowValid", spec := "fnRowValid", apart := false }
def FnRowValidSaid : Prop := fnRowValidRow.holds Try.pinned (OpenSpec.ofChange fnRowValidSpec)

/-- ITS FALSE NEIGHBOUR: 'it returns false'. Refute it at one input. -/
def fnRowValidWrong : ChangeSpec := { name := "fnRowValid", fn := fun _ => fun
  | [d] => { results := [.lit (.bool false)], args := [d] }
  | _ => none }
def FnRowValidWrongFalsely : Prop := fnRowValidRow.holds Try.pinned (OpenSpec.ofChange fnRowValidWrong)

/-- 'laws.FnExactRowsValid': WHATEVER THE INPUT: true; the input reads as it did. -/
def fnExactRowsValidSpec : ChangeSpec := { name := "fnExactRowsValid", fn := fun _ => fun
  | [d] => { results := [.lit (.bool true)], args := [d] }
  | _ => none }
def fnExactRowsValidRow : OpenClaim := { program := "ytfpddjglnhkndaa", sum := "31913af1dc96fc6898c9edd11b7c35c0fe4c3acb52a5c752a6f3cbb97365fded", func := "loop.example/pagebuilder/laws.FnExactRowsValid", spec := "fnExactRowsValid", apart := false }
def FnExactRowsValidSaid : Prop := fnExactRowsValidRow.holds Try.pinned (OpenSpec.ofChange fnExactRowsValidSpec)

/-- ITS FALSE NEIGHBOUR: 'it returns false'. Refute it at one input. -/
def fnExactRowsValidWrong : ChangeSpec := { name := "fnExactRowsValid", fn := fun _ => fun
  | [d] => { results := [.lit (.bool false)], args := [d] }
  | _ => none }
def FnExactRowsValidWrongFalsely : Prop := fnExactRowsValidRow.holds Try.pinned (OpenSpec.ofChange fnExactRowsValidWrong)

/-- 'laws.FnRowsValid': WHATEVER THE INPUT: true; the input reads as it did. -/
def fnRowsValidSpec : ChangeSpec := { name := "fnRowsValid", fn := fun _ => fun
  | [d] => { results := [.lit (.bool true)], args := [d] }
  | _ => none }
def fnRowsValidRow : OpenClaim := { program := "ytfpddjglnhkndaa", sum := "31913af1dc96fc6898c9edd11b7c35c0fe4c3acb52a5c752a6f3cbb97365fded", func := "loop.example/pagebuilder/laws.FnRowsValid", spec := "fnRowsValid", apart := false }
def FnRowsValidSaid : Prop := fnRowsValidRow.holds Try.pinned (OpenSpec.ofChange fnRowsValidSpec)

/-- ITS FALSE NEIGHBOUR: 'it returns false'. Refute it at one input. -/
def fnRowsValidWrong : ChangeSpec := { name := "fnRowsValid", fn := fun _ => fun
  | [d] => { results := [.lit (.bool false)], args := [d] }
  | _ => none }
def FnRowsValidWrongFalsely : Prop := fnRowsValidRow.holds Try.pinned (OpenSpec.ofChange fnRowsValidWrong)

/-- 'laws.FnExactHeightOf': WHATEVER THE INPUT: true; the input reads as it did. -/
def fnExactHeightOfSpec : ChangeSpec := { name := "fnExactHeightOf", fn := fun _ => fun
  | [d] => { results := [.lit (.bool true)], args := [d] }
  | _ => none }
def fnExactHeightOfRow : OpenClaim := { program := "ytfpddjglnhkndaa", sum := "31913af1dc96fc6898c9edd11b7c35c0fe4c3acb52a5c752a6f3cbb97365fded", func := "loop.example/pagebuilder/laws.FnExactHeightOf", spec := "fnExactHeightOf", apart := false }
def FnExactHeightOfSaid : Prop := fnExactHeightOfRow.holds Try.pinned (OpenSpec.ofChange fnExactHeightOfSpec)

/-- ITS FALSE NEIGHBOUR: 'it returns false'. Refute it at one input. -/
def fnExactHeightOfWrong : ChangeSpec := { name := "fnExactHeightOf", fn := fun _ => fun
  | [d] => { results := [.lit (.bool false)], args := [d] }
  | _ => none }
def FnExactHeightOfWrongFalsely : Prop := fnExactHeightOfRow.holds Try.pinned (OpenSpec.ofChange fnExactHeightOfWrong)

/-- 'laws.FnHeightOf': WHATEVER THE INPUT: true; the input reads as it did. -/
def fnHeightOfSpec : ChangeSpec := { name := "fnHeightOf", fn := fun _ => fun
  | [d] => { results := [.lit (.bool true)], args := [d] }
  | _ => none }
def fnHeightOfRow : OpenClaim := { program := "ytfpddjglnhkndaa", sum := "31913af1dc96fc6898c9edd11b7c35c0fe4c3acb52a5c752a6f3cbb97365fded", func := "loop.example/pagebuilder/laws.FnHeightOf", spec := "fnHeightOf", apart := false }
def FnHeightOfSaid : Prop := fnHeightOfRow.holds Try.pinned (OpenSpec.ofChange fnHeightOfSpec)

/-- ITS FALSE NEIGHBOUR: 'it returns false'. Refute it at one input. -/
def fnHeightOfWrong : ChangeSpec := { name := "fnHeightOf", fn := fun _ => fun
  | [d] => { results := [.lit (.bool false)], args := [d] }
  | _ => none }
def FnHeightOfWrongFalsely : Prop := fnHeightOfRow.holds Try.pinned (OpenSpec.ofChange fnHeightOfWrong)

/-- 'laws.FnExactParagraphRows': WHATEVER THE INPUT: true; the input reads as it did. -/
def fnExactParagraphRowsSpec : ChangeSpec := { name := "fnExactParagraphRows", fn := fun _ => fun
  | [d1, d2] => { results := [.lit (.bool true)], args := [d1, d2] }
  | _ => none }
def fnExactParagraphRowsRow : OpenClaim := { program := "ytfpddjglnhkndaa", sum := "31913af1dc96fc6898c9edd11b7c35c0fe4c3acb52a5c752a6f3cbb97365fded", func := "loop.example/pagebuilder/laws.FnExactParagraphRows", spec := "fnExactParagraphRows", apart := false }
def FnExactParagraphRowsSaid : Prop := fnExactParagraphRowsRow.holds Try.pinned (OpenSpec.ofChange fnExactParagraphRowsSpec)

/-- ITS FALSE NEIGHBOUR: 'it returns false'. Refute it at one input. -/
def fnExactParagraphRowsWrong : ChangeSpec := { name := "fnExactParagraphRows", fn := fun _ => fun
  | [d1, d2] => { results := [.lit (.bool false)], args := [d1, d2] }
  | _ => none }
def FnExactParagraphRowsWrongFalsely : Prop := fnExactParagraphRowsRow.holds Try.pinned (OpenSpec.ofChange fnExactParagraphRowsWrong)

/-- 'laws.FnParagraphRows': WHATEVER THE INPUT: true; the input reads as it did. -/
def fnParagraphRowsSpec : ChangeSpec := { name := "fnParagraphRows", fn := fun _ => fun
  | [d] => { results := [.lit (.bool true)], args := [d] }
  | _ => none }
def fnParagraphRowsRow : OpenClaim := { program := "ytfpddjglnhkndaa", sum := "31913af1dc96fc6898c9edd11b7c35c0fe4c3acb52a5c752a6f3cbb97365fded", func := "loop.example/pagebuilder/laws.FnParagraphRows", spec := "fnParagraphRows", apart := false }
def FnParagraphRowsSaid : Prop := fnParagraphRowsRow.holds Try.pinned (OpenSpec.ofChange fnParagraphRowsSpec)

/-- ITS FALSE NEIGHBOUR: 'it returns false'. Refute it at one input. -/
def fnParagraphRowsWrong : ChangeSpec := { name := "fnParagraphRows", fn := fun _ => fun
  | [d] => { results := [.lit (.bool false)], args := [d] }
  | _ => none }
def FnParagraphRowsWrongFalsely : Prop := fnParagraphRowsRow.holds Try.pinned (OpenSpec.ofChange fnParagraphRowsWrong)

/-- 'laws.FnExactSplitRows': WHATEVER THE INPUT: true; the input reads as it did. -/
def fnExactSplitRowsSpec : ChangeSpec := { name := "fnExactSplitRows", fn := fun _ => fun
  | [d1, d2] => { results := [.lit (.bool true)], args := [d1, d2] }
  | _ => none }
def fnExactSplitRowsRow : OpenClaim := { program := "ytfpddjglnhkndaa", sum := "31913af1dc96fc6898c9edd11b7c35c0fe4c3acb52a5c752a6f3cbb97365fded", func := "loop.example/pagebuilder/laws.FnExactSplitRows", spec := "fnExactSplitRows", apart := false }
def FnExactSplitRowsSaid : Prop := fnExactSplitRowsRow.holds Try.pinned (OpenSpec.ofChange fnExactSplitRowsSpec)

/-- ITS FALSE NEIGHBOUR: 'it returns false'. Refute it at one input. -/
def fnExactSplitRowsWrong : ChangeSpec := { name := "fnExactSplitRows", fn := fun _ => fun
  | [d1, d2] => { results := [.lit (.bool false)], args := [d1, d2] }
  | _ => none }
def FnExactSplitRowsWrongFalsely : Prop := fnExactSplitRowsRow.holds Try.pinned (OpenSpec.ofChange fnExactSplitRowsWrong)

/-- 'laws.FnSplitRows': WHATEVER THE INPUT: true; the input reads as it did. -/
def fnSplitRowsSpec : ChangeSpec := { name := "fnSplitRows", fn := fun _ => fun
  | [d] => { results := [.lit (.bool true)], args := [d] }
  | _ => none }
def fnSplitRowsRow : OpenClaim := { program := "ytfpddjglnhkndaa", sum := "31913af1dc96fc6898c9edd11b7c35c0fe4c3acb52a5c752a6f3cbb97365fded", func := "loop.example/pagebuilder/laws.FnSplitRows", spec := "fnSplitRows", apart := false }
def FnSplitRowsSaid : Prop := fnSplitRowsRow.holds Try.pinned (OpenSpec.ofChange fnSplitRowsSpec)

/-- ITS FALSE NEIGHBOUR: 'it returns false'. Refute it at one input. -/
def fnSplitRowsWrong : ChangeSpec := { name := "fnSplitRows", fn := fun _ => fun
  | [d] => { results := [.lit (.bool false)], args := [d] }
  | _ => none }
def FnSplitRowsWrongFalsely : Prop := fnSplitRowsRow.holds Try.pinned (OpenSpec.ofChange fnSplitRowsWrong)

/-- 'laws.FnExactSplitAll': WHATEVER THE INPUT: true; the input reads as it did. -/
def fnExactSplitAllSpec : ChangeSpec := { name := "fnExactSplitAll", fn := fun _ => fun
  | [d1, d2] => { results := [.lit (.bool true)], args := [d1, d2] }
  | _ => none }
def fnExactSplitAllRow : OpenClaim := { program := "ytfpddjglnhkndaa", sum := "31913af1dc96fc6898c9edd11b7c35c0fe4c3acb52a5c752a6f3cbb97365fded", func := "loop.example/pagebuilder/laws.FnExactSplitAll", spec := "fnExactSplitAll", apart := false }
def FnExactSplitAllSaid : Prop := fnExactSplitAllRow.holds Try.pinned (OpenSpec.ofChange fnExactSplitAllSpec)

/-- ITS FALSE NEIGHBOUR: 'it returns false'. Refute it at one input. -/
def fnExactSplitAllWrong : ChangeSpec := { name := "fnExactSplitAll", fn := fun _ => fun
  | [d1, d2] => { results := [.lit (.bool false)], args := [d1, d2] }
  | _ => none }
def FnExactSplitAllWrongFalsely : Prop := fnExactSplitAllRow.holds Try.pinned (OpenSpec.ofChange fnExactSplitAllWrong)

/-- 'laws.FnSplitAll': WHATEVER THE INPUT: true; the input reads as it did. -/
def fnSplitAllSpec : ChangeSpec := { name := "fnSplitAll", fn := fun _ => fun
  | [d] => { results := [.lit (.bool true)], args := [d] }
  | _ => none }
def fnSplitAllRow : OpenClaim := { program := "ytfpddjglnhkndaa", sum := "31913af1dc96fc6898c9edd11b7c35c0fe4c3acb52a5c752a6f3cbb97365fded", func := "loop.example/pagebuilder/laws.FnSplitAll", spec := "fnSplitAll", apart := false }
def FnSplitAllSaid : Prop := fnSplitAllRow.holds Try.pinned (OpenSpec.ofChange fnSplitAllSpec)

/-- ITS FALSE NEIGHBOUR: 'it returns false'. Refute it at one input. -/
def fnSplitAllWrong : ChangeSpec := { name := "fnSplitAll", fn := fun _ => fun
  | [d] => { results := [.lit (.bool false)], args := [d] }
  | _ => none }
def FnSplitAllWrongFalsely : Prop := fnSplitAllRow.holds Try.pinned (OpenSpec.ofChange fnSplitAllWrong)

/- THE SECOND FORM. 'bulk': how many values and letters a reading holds, each counted each time it is reached (what is shared counts as often as it is met; a slice's spare places count too). A statement '..UptoSaid' is the law's where the arguments, and the package variables that the reading takes, are together of bulk at most 1048576: NARROWER than '..Said'. Prove '..Said' where nothing that the law and all that it calls make is longer than what came in: it says more and counts as full. Else prove '..UptoSaid'. A law counts once. -/
mutual
def uptoBulk {H : Type} : DataW H → Nat
  | .lit (.string bytes) => bytes.length + 1
  | .lit _ => 1
  | .nil => 1
  | .ptr d => uptoBulk d + 1
  | .slice elems spare => uptoBulkAll elems + uptoBulkAll spare + 1
  | .agg parts => uptoBulkAll parts + 1
  | .iface _ d => uptoBulk d + 1
  | .map entries => uptoBulkEntries entries + 1
  | .held _ => 1
def uptoBulkAll {H : Type} : List (DataW H) → Nat
  | [] => 0
  | d :: r => uptoBulk d + uptoBulkAll r
def uptoBulkEntries {H : Type} : List (Lit × DataW H) → Nat
  | [] => 0
  | x :: r => uptoBulkEntry x + uptoBulkEntries r
def uptoBulkEntry {H : Type} : Lit × DataW H → Nat
  | (.string bytes, d) => bytes.length + uptoBulk d + 1
  | (_, d) => uptoBulk d + 1
 end
def uptoSmall : (H : Type) → List (DataW H) → Bool := fun _ ds => decide (uptoBulkAll ds ≤ 1048576)
def OpenSpec.upto (s : _root_.Go.ChangeSpec) : _root_.Go.OpenSpec := { _root_.Go.OpenSpec.ofChange s with cond := some uptoSmall }

/-- 'laws.FnExactRowValid', WHERE WHAT IT READS IS OF BULK AT MOST 1048576: true; the input reads as it did. -/
def fnExactRowValidUptoRow : OpenClaim := { program := "ytfpddjglnhkndaa", sum := "31913af1dc96fc6898c9edd11b7c35c0fe4c3acb52a5c752a6f3cbb97365fded", func := "loop.example/pagebuilder/laws.FnExactRowValid", spec := "fnExactRowValid", apart := false, narrowed := true }
def FnExactRowValidUptoSaid : Prop := fnExactRowValidUptoRow.holds Try.pinned (OpenSpec.upto fnExactRowValidSpec)

/-- 'laws.FnRowValid', WHERE WHAT IT READS IS OF BULK AT MOST 1048576: true; the input reads as it did. -/
def fnRowValidUptoRow : OpenClaim := { program := "ytfpddjglnhkndaa", sum := "31913af1dc96fc6898c9edd11b7c35c0fe4c3acb52a5c752a6f3cbb97365fded", func := "loop.example/pagebuilder/laws.FnRowValid", spec := "fnRowValid", apart := false, narrowed := true }
def FnRowValidUptoSaid : Prop := fnRowValidUptoRow.holds Try.pinned (OpenSpec.upto fnRowValidSpec)

/-- 'laws.FnExactRowsValid', WHERE WHAT IT READS IS OF BULK AT MOST 1048576: true; the input reads as it did. -/
def fnExactRowsValidUptoRow : OpenClaim := { program := "ytfpddjglnhkndaa", sum := "31913af1dc96fc6898c9edd11b7c35c0fe4c3acb52a5c752a6f3cbb97365fded", func := "loop.example/pagebuilder/laws.FnExactRowsValid", spec := "fnExactRowsValid", apart := false, narrowed := true }
def FnExactRowsValidUptoSaid : Prop := fnExactRowsValidUptoRow.holds Try.pinned (OpenSpec.upto fnExactRowsValidSpec)

/-- 'laws.FnRowsValid', WHERE WHAT IT READS IS OF BULK AT MOST 1048576: true; the input reads as it did. -/
def fnRowsValidUptoRow : OpenClaim := { program := "ytfpddjglnhkndaa", sum := "31913af1dc96fc6898c9edd11b7c35c0fe4c3acb52a5c752a6f3cbb97365fded", func := "loop.example/pagebuilder/laws.FnRowsValid", spec := "fnRowsValid", apart := false, narrowed := true }
def FnRowsValidUptoSaid : Prop := fnRowsValidUptoRow.holds Try.pinned (OpenSpec.upto fnRowsValidSpec)

/-- 'laws.FnExactHeightOf', WHERE WHAT IT READS IS OF BULK AT MOST 1048576: true; the input reads as it did. -/
def fnExactHeightOfUptoRow : OpenClaim := { program := "ytfpddjglnhkndaa", sum := "31913af1dc96fc6898c9edd11b7c35c0fe4c3acb52a5c752a6f3cbb97365fded", func := "loop.example/pagebuilder/laws.FnExactHeightOf", spec := "fnExactHeightOf", apart := false, narrowed := true }
def FnExactHeightOfUptoSaid : Prop := fnExactHeightOfUptoRow.holds Try.pinned (OpenSpec.upto fnExactHeightOfSpec)

/-- 'laws.FnHeightOf', WHERE WHAT IT READS IS OF BULK AT MOST 1048576: true; the input reads as it did. -/
def fnHeightOfUptoRow : OpenClaim := { program := "ytfpddjglnhkndaa", sum := "31913af1dc96fc6898c9edd11b7c35c0fe4c3acb52a5c752a6f3cbb97365fded", func := "loop.example/pagebuilder/laws.FnHeightOf", spec := "fnHeightOf", apart := false, narrowed := true }
def FnHeightOfUptoSaid : Prop := fnHeightOfUptoRow.holds Try.pinned (OpenSpec.upto fnHeightOfSpec)

/-- 'laws.FnExactParagraphRows', WHERE WHAT IT READS IS OF BULK AT MOST 1048576: true; the input reads as it did. -/
def fnExactParagraphRowsUptoRow : OpenClaim := { program := "ytfpddjglnhkndaa", sum := "31913af1dc96fc6898c9edd11b7c35c0fe4c3acb52a5c752a6f3cbb97365fded", func := "loop.example/pagebuilder/laws.FnExactParagraphRows", spec := "fnExactParagraphRows", apart := false, narrowed := true }
def FnExactParagraphRowsUptoSaid : Prop := fnExactParagraphRowsUptoRow.holds Try.pinned (OpenSpec.upto fnExactParagraphRowsSpec)

/-- 'laws.FnParagraphRows', WHERE WHAT IT READS IS OF BULK AT MOST 1048576: true; the input reads as it did. -/
def fnParagraphRowsUptoRow : OpenClaim := { program := "ytfpddjglnhkndaa", sum := "31913af1dc96fc6898c9edd11b7c35c0fe4c3acb52a5c752a6f3cbb97365fded", func := "loop.example/pagebuilder/laws.FnParagraphRows", spec := "fnParagraphRows", apart := false, narrowed := true }
def FnParagraphRowsUptoSaid : Prop := fnParagraphRowsUptoRow.holds Try.pinned (OpenSpec.upto fnParagraphRowsSpec)

/-- 'laws.FnExactSplitRows', WHERE WHAT IT READS IS OF BULK AT MOST 1048576: true; the input reads as it did. -/
def fnExactSplitRowsUptoRow : OpenClaim := { program := "ytfpddjglnhkndaa", sum := "31913af1dc96fc6898c9edd11b7c35c0fe4c3acb52a5c752a6f3cbb97365fded", func := "loop.example/pagebuilder/laws.FnExactSplitRows", spec := "fnExactSplitRows", apart := false, narrowed := true }
def FnExactSplitRowsUptoSaid : Prop := fnExactSplitRowsUptoRow.holds Try.pinned (OpenSpec.upto fnExactSplitRowsSpec)

/-- 'laws.FnSplitRows', WHERE WHAT IT READS IS OF BULK AT MOST 1048576: true; the input reads as it did. -/
def fnSplitRowsUptoRow : OpenClaim := { program := "ytfpddjglnhkndaa", sum := "31913af1dc96fc6898c9edd11b7c35c0fe4c3acb52a5c752a6f3cbb97365fded", func := "loop.example/pagebuilder/laws.FnSplitRows", spec := "fnSplitRows", apart := false, narrowed := true }
def FnSplitRowsUptoSaid : Prop := fnSplitRowsUptoRow.holds Try.pinned (OpenSpec.upto fnSplitRowsSpec)

/-- 'laws.FnExactSplitAll', WHERE WHAT IT READS IS OF BULK AT MOST 1048576: true; the input reads as it did. -/
def fnExactSplitAllUptoRow : OpenClaim := { program := "ytfpddjglnhkndaa", sum := "31913af1dc96fc6898c9edd11b7c35c0fe4c3acb52a5c752a6f3cbb97365fded", func := "loop.example/pagebuilder/laws.FnExactSplitAll", spec := "fnExactSplitAll", apart := false, narrowed := true }
def FnExactSplitAllUptoSaid : Prop := fnExactSplitAllUptoRow.holds Try.pinned (OpenSpec.upto fnExactSplitAllSpec)

/-- 'laws.FnSplitAll', WHERE WHAT IT READS IS OF BULK AT MOST 1048576: true; the input reads as it did. -/
def fnSplitAllUptoRow : OpenClaim := { program := "ytfpddjglnhkndaa", sum := "31913af1dc96fc6898c9edd11b7c35c0fe4c3acb52a5c752a6f3cbb97365fded", func := "loop.example/pagebuilder/laws.FnSplitAll", spec := "fnSplitAll", apart := false, narrowed := true }
def FnSplitAllUptoSaid : Prop := fnSplitAllUptoRow.holds Try.pinned (OpenSpec.upto fnSplitAllSpec)

end Rows
end Go.Proofs.Ytfpddjglnhkndaa
