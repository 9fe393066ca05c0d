/- The law's own check of a fixed answer. No condition. -/
import Derived.Test.YtfflnkkhemaanaaRows
import Derived.Test.YtfflnkkhemaanaaLib
namespace Go.Proofs.Ytfflnkkhemaanaa
open Go.RowKit
set_option linter.unusedVariables false

set_option maxHeartbeats 400000 in
theorem c_alive (w : World) : Calls Try.prog 13 #[] w fun e w' => e = .returned (.bool true) ∧ Below w.heap.size w w' := by
  go_enter Try.func13, Try.ntmps13
  go_wp2
  go_ret
  exact ⟨rfl, bof _ _⟩
end Go.Proofs.Ytfflnkkhemaanaa
