/- The walk of the law FnExactHeadingsValid: it returns true, whatever comes in, and changes nothing that was there. No condition. -/
import Derived.Test.YtdjilkohnhejiaaHeadsA
namespace Go.Proofs.Ytdjilkohnhejiaa
open Go.RowKit
set_option linter.unusedVariables false

set_option maxHeartbeats 400000 in
theorem w_FnExactHeadingsValid (a0 : Option Addr) (len0 cap0 : Nat) (x0 : List Heading) (w : World) (h0 : HeadsAt w a0 len0 cap0 x0) :
    Calls Try.prog 3 #[.slice a0 len0 cap0] w fun e w' => e = .returned (.bool true) ∧ Below w.heap.size w w' := by
  have l0 := h0.len
  have bd0 := h0.bd
  by_cases big0 : 1048576 < (len0 : Int)
  · go_enter Try.func3, Try.ntmps3
    go_wp2_with fail
    refine (c_szHeadingS_big a0 len0 cap0 _ _ (by omega) (by omega) (by omega)).mono ?_
    rintro e w1 ⟨rfl, rfl⟩
    go_wp2
    go_ret
    exact ⟨rfl, Below.refl _ _⟩
  subst l0
  have B := Below.refl w.heap.size w
  go_enter Try.func3, Try.ntmps3
  go_wp2_with fail
  refine (c_szHeadingS_ok a0 _ cap0 _ _ (by omega) (by omega)).mono ?_
  rintro e w1 ⟨rfl, rfl⟩
  go_wp2_with fail
  refine (c_toHeadingS a0 _ cap0 x0 _ (h0.below (Nat.le_refl _) B) (by omega)).mono ?_
  rintro e w1 ⟨AS0, cS0, rfl, S0, hb⟩
  replace B := bnext B hb
  clear hb
  go_wp2_with fail
  refine (c_headsValid' AS0 _ cS0 x0 _ S0.at_ ).mono ?_
  rintro e w2 ⟨rfl, hb⟩
  replace B := bnext B hb
  replace S0 := S0.next hb
  clear hb
  clear S0
  have sz_X0 := B.size
  go_wp2_with fail
  refine (c_toHeadingS a0 _ cap0 x0 _ (h0.below (Nat.le_refl _) B) (by omega)).mono ?_
  rintro e w3 ⟨AX0, cX0, rfl, X0, hb⟩
  replace B := bnext B hb
  clear hb
  go_wp2_with fail
  refine (c_headsValid AX0 _ cX0 x0 _ X0.at_ ).mono ?_
  rintro e w4 ⟨rfl, hb⟩
  replace B := bnext B hb
  replace X0 := X0.next hb
  clear hb
  go_wp2_with fail
  refine (c_toHeadingS a0 _ cap0 x0 _ (h0.below (Nat.le_refl _) B) (by omega)).mono ?_
  rintro e w5 ⟨AT0, cT0, rfl, T0, hb⟩
  replace B := bnext B hb
  replace X0 := X0.next hb
  clear hb
  go_wp2_with fail
  refine (c_eqHeadingS_same _ _ _ _ _ _ x0 _ X0.at_ T0.at_).mono ?_
  rintro e w6 ⟨rfl, hb⟩
  replace B := bnext B hb
  replace X0 := X0.next hb
  replace T0 := T0.next hb
  clear hb
  clear T0
  go_wp2
  go_ret
  exact ⟨rfl, B⟩
end Go.Proofs.Ytdjilkohnhejiaa
