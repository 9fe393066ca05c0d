/- The law's own check of a fixed answer. No condition. -/
import Derived.Test.YtpbccblenohhoaaRows
import Derived.Test.YtpbccblenohhoaaLib
namespace Go.Proofs.Ytpbccblenohhoaa
open Go.RowKit
set_option linter.unusedVariables false

set_option maxHeartbeats 400000 in
theorem c_alive (w : World) : Calls Try.prog 19 #[] w fun e w' => e = .returned (.bool true) ∧ Below w.heap.size w w' := by
  go_enter Try.func19, Try.ntmps19
  go_wp2
  go_ret
  exact ⟨rfl, bof _ _⟩
end Go.Proofs.Ytpbccblenohhoaa
