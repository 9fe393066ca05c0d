/- MayBreak, the program's: it returns (its answer is not needed). No condition. -/
import Derived.Test.YtlklkloadefihaaMl
namespace Go.Proofs.Ytlklkloadefihaa
open Go.RowKit
set_option linter.unusedVariables false

set_option maxHeartbeats 800000 in
theorem c_MayBreak (A : Option Addr) (n c : Nat) (rs : List Item) (k : Int) (w : World) (hR : ItemsAt w A n c rs) :
    Calls Try.prog 37 #[.slice A n c, .int .i64 k] w fun e w' => ∃ b : Bool, e = .returned (.bool b) ∧ Below w.heap.size w w' := by
  have hbd := hR.bd
  go_enter Try.func37, Try.ntmps37
  go_wp2_with fail
  refine (c_itemsValid A n c rs _ hR).mono ?_
  rintro e w1 ⟨rfl, hb⟩
  cases hv : itemsValid rs
  · go_wp2
    go_ret
    exact ⟨_, rfl, hb⟩
  · go_wp2_with fail
    refine (c_mayBreak A n c rs k _ (hR.next hb)).mono ?_
    rintro e w2 ⟨rfl, hb2⟩
    go_wp2
    go_ret
    exact ⟨_, rfl, bnext hb hb2⟩
end Go.Proofs.Ytlklkloadefihaa
