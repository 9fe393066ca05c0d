/- The walk of the law FnExactLineIsFull: it returns true, whatever comes in, and changes nothing that was there. No condition. -/
import Derived.Test.YtadcbigioldejaaFull
namespace Go.Proofs.Ytadcbigioldejaa
open Go.RowKit
set_option linter.unusedVariables false

set_option maxHeartbeats 400000 in
theorem w_FnExactLineIsFull (a0 : Option Addr) (len0 cap0 : Nat) (x0 : List Item) (x1 : Int) (x2 : Int) (x3 : Int) (w : World) (h0 : ItemsAt w a0 len0 cap0 x0) (l1 : -9223372036854775808 ≤ x1) (g1 : x1 ≤ 9223372036854775807) (l2 : -9223372036854775808 ≤ x2) (g2 : x2 ≤ 9223372036854775807) (l3 : -9223372036854775808 ≤ x3) (g3 : x3 ≤ 9223372036854775807) :
    Calls Try.prog 5 #[.slice a0 len0 cap0, .int .i64 x1, .int .i64 x2, .int .i64 x3] w fun e w' => e = .returned (.bool true) ∧ Below w.heap.size w w' := by
  have l0 := h0.len
  have bd0 := h0.bd
  by_cases big0 : 1048576 < (len0 : Int)
  · go_enter Try.func5, Try.ntmps5
    go_wp2_with fail
    refine (c_szItemS_big a0 len0 cap0 _ _ (by omega) (by omega) (by omega)).mono ?_
    rintro e w1 ⟨rfl, rfl⟩
    go_wp2
    go_ret
    exact ⟨rfl, Below.refl _ _⟩
  subst l0
  have B := Below.refl w.heap.size w
  go_enter Try.func5, Try.ntmps5
  go_wp2_with fail
  refine (c_szItemS_ok a0 _ cap0 _ _ (by omega) (by omega)).mono ?_
  rintro e w1 ⟨rfl, rfl⟩
  go_wp2_with fail
  refine (c_toItemS a0 _ cap0 x0 _ (h0.below (Nat.le_refl _) B) (by omega)).mono ?_
  rintro e w1 ⟨AS0, cS0, rfl, S0, hb⟩
  replace B := bnext B hb
  clear hb
  go_wp2_with fail
  refine (c_lineIsFull' AS0 _ cS0 x0 x1 x2 x3 _ S0.at_ ).mono ?_
  rintro e w2 ⟨rfl, hb⟩
  replace B := bnext B hb
  replace S0 := S0.next hb
  clear hb
  clear S0
  have sz_X0 := B.size
  go_wp2_with fail
  refine (c_toItemS a0 _ cap0 x0 _ (h0.below (Nat.le_refl _) B) (by omega)).mono ?_
  rintro e w3 ⟨AX0, cX0, rfl, X0, hb⟩
  replace B := bnext B hb
  clear hb
  go_wp2_with fail
  refine (c_lineIsFull AX0 _ cX0 x0 x1 x2 x3 _ X0.at_ ).mono ?_
  rintro e w4 ⟨rfl, hb⟩
  replace B := bnext B hb
  replace X0 := X0.next hb
  clear hb
  go_wp2_with fail
  refine (c_toItemS a0 _ cap0 x0 _ (h0.below (Nat.le_refl _) B) (by omega)).mono ?_
  rintro e w5 ⟨AT0, cT0, rfl, T0, hb⟩
  replace B := bnext B hb
  replace X0 := X0.next hb
  clear hb
  go_wp2_with fail
  refine (c_eqItemS_same _ _ _ _ _ _ x0 _ X0.at_ T0.at_).mono ?_
  rintro e w6 ⟨rfl, hb⟩
  replace B := bnext B hb
  replace X0 := X0.next hb
  replace T0 := T0.next hb
  clear hb
  clear T0
  go_wp2
  go_ret
  exact ⟨rfl, B⟩
end Go.Proofs.Ytadcbigioldejaa
