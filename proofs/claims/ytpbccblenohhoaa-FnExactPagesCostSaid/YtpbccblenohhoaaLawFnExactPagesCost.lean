/- The walk of the law FnExactPagesCost: it returns true, whatever comes in, and changes nothing that was there. No condition. -/
import Derived.Test.YtpbccblenohhoaaPages2
namespace Go.Proofs.Ytpbccblenohhoaa
open Go.RowKit
set_option linter.unusedVariables false

set_option maxHeartbeats 400000 in
theorem w_FnExactPagesCost (a0 : Option Addr) (len0 cap0 : Nat) (x0 : List Row) (x1 : Int) (a2 : Option Addr) (len2 cap2 : Nat) (x2 : List Int) (w : World) (h0 : RowsAt w a0 len0 cap0 x0) (l1 : -9223372036854775808 ≤ x1) (g1 : x1 ≤ 9223372036854775807) (h2 : IntsAt w a2 len2 cap2 x2) :
    Calls Try.prog 3 #[.slice a0 len0 cap0, .int .i64 x1, .slice a2 len2 cap2] w fun e w' => e = .returned (.bool true) ∧ Below w.heap.size w w' := by
  have l0 := h0.len
  have bd0 := h0.bd
  have l2 := h2.len
  have bd2 := h2.bd
  by_cases big2 : 1048576 < len2
  · go_enter Try.func3, Try.ntmps3
    go_wp2
    go_ret
    exact ⟨rfl, Below.refl _ _⟩
  by_cases big0 : 1048576 < (len0 : Int)
  · go_enter Try.func3, Try.ntmps3
    go_wp2_with fail
    refine (c_szRowS_big a0 len0 cap0 _ _ (by omega) (by omega) (by omega)).mono ?_
    rintro e w1 ⟨rfl, rfl⟩
    go_wp2
    go_ret
    exact ⟨rfl, Below.refl _ _⟩
  subst l0
  subst l2
  have B := Below.refl w.heap.size w
  go_enter Try.func3, Try.ntmps3
  go_wp2_with fail
  refine (c_szRowS_ok a0 _ cap0 _ _ (by omega) (by omega)).mono ?_
  rintro e w1 ⟨rfl, rfl⟩
  go_wp2_with fail
  refine (c_toRowS a0 _ cap0 x0 _ (h0.below (Nat.le_refl _) B) (by omega)).mono ?_
  rintro e w1 ⟨AS0, cS0, rfl, S0, hb⟩
  replace B := bnext B hb
  clear hb
  go_wp2_with fail
  refine (c_toIntS a2 _ cap2 x2 _ (h2.below (Nat.le_refl _) B) (by omega)).mono ?_
  rintro e w2 ⟨AS2, cS2, rfl, S2, hb⟩
  replace B := bnext B hb
  replace S0 := S0.next hb
  clear hb
  go_wp2_with fail
  refine (c_pagesCost' AS0 _ cS0 x0 x1 AS2 _ cS2 x2 _ S0.at_ S2.at_ ).mono ?_
  rintro e w3 ⟨rfl, hb⟩
  replace B := bnext B hb
  replace S0 := S0.next hb
  replace S2 := S2.next hb
  clear hb
  clear S0
  clear S2
  have sz_X0 := B.size
  go_wp2_with fail
  refine (c_toRowS a0 _ cap0 x0 _ (h0.below (Nat.le_refl _) B) (by omega)).mono ?_
  rintro e w4 ⟨AX0, cX0, rfl, X0, hb⟩
  replace B := bnext B hb
  clear hb
  have sz_X2 := B.size
  go_wp2_with fail
  refine (c_toIntS a2 _ cap2 x2 _ (h2.below (Nat.le_refl _) B) (by omega)).mono ?_
  rintro e w5 ⟨AX2, cX2, rfl, X2, hb⟩
  have ap_X0_X2 := own_apart X0 X2 (Nat.le_refl _)
  have ap_X2_X0 := own_apart' X0 X2 (Nat.le_refl _)
  replace B := bnext B hb
  replace X0 := X0.next hb
  clear hb
  go_wp2_with fail
  refine (c_pagesCost AX0 _ cX0 x0 x1 AX2 _ cX2 x2 _ X0.at_ X2.at_ ).mono ?_
  rintro e w6 ⟨rfl, hb⟩
  replace B := bnext B hb
  replace X0 := X0.next hb
  replace X2 := X2.next hb
  clear hb
  go_wp2_with fail
  refine (c_toRowS a0 _ cap0 x0 _ (h0.below (Nat.le_refl _) B) (by omega)).mono ?_
  rintro e w7 ⟨AT0, cT0, rfl, T0, hb⟩
  replace B := bnext B hb
  replace X0 := X0.next hb
  replace X2 := X2.next hb
  clear hb
  go_wp2_with fail
  refine (c_eqRowS_same _ _ _ _ _ _ x0 _ X0.at_ T0.at_).mono ?_
  rintro e w8 ⟨rfl, hb⟩
  replace B := bnext B hb
  replace X0 := X0.next hb
  replace X2 := X2.next hb
  replace T0 := T0.next hb
  clear hb
  clear T0
  go_wp2_with fail
  refine (c_toIntS a2 _ cap2 x2 _ (h2.below (Nat.le_refl _) B) (by omega)).mono ?_
  rintro e w9 ⟨AT2, cT2, rfl, T2, hb⟩
  replace B := bnext B hb
  replace X0 := X0.next hb
  replace X2 := X2.next hb
  clear hb
  go_wp2_with fail
  refine (c_eqIntS_same _ _ _ _ _ _ x2 _ X2.at_ T2.at_).mono ?_
  rintro e w10 ⟨rfl, hb⟩
  replace B := bnext B hb
  replace X0 := X0.next hb
  replace X2 := X2.next hb
  replace T2 := T2.next hb
  clear hb
  clear T2
  go_wp2
  go_ret
  exact ⟨rfl, B⟩
end Go.Proofs.Ytpbccblenohhoaa
