/- The law's own check of a fixed answer. No condition. -/
import Derived.Test.YtnbnkbfebekjhaaRows
import Derived.Test.YtnbnkbfebekjhaaLib
namespace Go.Proofs.Ytnbnkbfebekjhaa
open Go.RowKit
set_option linter.unusedVariables false

set_option maxHeartbeats 400000 in
theorem c_alive (w : World) : Calls Try.prog 21 #[] w fun e w' => e = .returned (.bool true) ∧ Below w.heap.size w w' := by
  go_enter Try.func21, Try.ntmps21
  go_wp2
  go_ret
  exact ⟨rfl, bof _ _⟩
end Go.Proofs.Ytnbnkbfebekjhaa
