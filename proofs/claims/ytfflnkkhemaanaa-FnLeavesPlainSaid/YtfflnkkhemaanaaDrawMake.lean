/- spec.DrawMakeLeaves: what it draws. No condition. -/
import Derived.Test.YtfflnkkhemaanaaDrawPages
namespace Go.Proofs.Ytfflnkkhemaanaa
open Go.RowKit
set_option linter.unusedVariables false
set_option maxHeartbeats 400000 in
theorem c_drawMakeLeaves (A : Option Addr) (n c : Nat) (xs : List Int) (w : World) (h : CodeAt w A n c xs) :
    Calls Try.prog 21 #[.slice A n c] w fun e w' => ∃ (A : Option Addr) (c : Nat) (rs : List Row) (y : Int), e = .returned (.tuple #[.slice A rs.length c, .int .i64 y]) ∧ rs.length ≤ 31 ∧ (0 ≤ y ∧ y ≤ 1001) ∧ OwnR w' w.heap.size A c rs ∧ Below w.heap.size w w' := by
  go_enter Try.func21, Try.ntmps21
  go_wp2_with fail
  refine (c_drawBestPages A n c xs _ h).mono ?_
  rintro e w1 ⟨A1, c1, rs, y, rfl, hl, hy, O, B⟩
  go_wp2
  go_ret2
  exact ⟨_, _, rs, y, rfl, hl, hy, O, B⟩
end Go.Proofs.Ytfflnkkhemaanaa
