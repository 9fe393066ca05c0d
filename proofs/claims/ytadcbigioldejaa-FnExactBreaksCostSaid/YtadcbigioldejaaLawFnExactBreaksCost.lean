/- The walk of the law FnExactBreaksCost: it returns true, whatever comes in, and changes nothing that was there. No condition. -/
import Derived.Test.YtadcbigioldejaaCost4
namespace Go.Proofs.Ytadcbigioldejaa
open Go.RowKit
set_option linter.unusedVariables false

set_option maxHeartbeats 400000 in
theorem w_FnExactBreaksCost (a0 : Option Addr) (len0 cap0 : Nat) (x0 : List Item) (x1 : Int) (x2 : Int) (a3 : Option Addr) (len3 cap3 : Nat) (x3 : List Int) (w : World) (h0 : ItemsAt w a0 len0 cap0 x0) (l1 : -9223372036854775808 ≤ x1) (g1 : x1 ≤ 9223372036854775807) (l2 : -9223372036854775808 ≤ x2) (g2 : x2 ≤ 9223372036854775807) (h3 : IntsAt w a3 len3 cap3 x3) :
    Calls Try.prog 6 #[.slice a0 len0 cap0, .int .i64 x1, .int .i64 x2, .slice a3 len3 cap3] w fun e w' => e = .returned (.bool true) ∧ Below w.heap.size w w' := by
  have l0 := h0.len
  have bd0 := h0.bd
  have l3 := h3.len
  have bd3 := h3.bd
  by_cases big3 : 1048576 < len3
  · go_enter Try.func6, Try.ntmps6
    go_wp2
    go_ret
    exact ⟨rfl, Below.refl _ _⟩
  by_cases big0 : 1048576 < (len0 : Int)
  · go_enter Try.func6, Try.ntmps6
    go_wp2_with fail
    refine (c_szItemS_big a0 len0 cap0 _ _ (by omega) (by omega) (by omega)).mono ?_
    rintro e w1 ⟨rfl, rfl⟩
    go_wp2
    go_ret
    exact ⟨rfl, Below.refl _ _⟩
  subst l0
  subst l3
  have B := Below.refl w.heap.size w
  go_enter Try.func6, Try.ntmps6
  go_wp2_with fail
  refine (c_szItemS_ok a0 _ cap0 _ _ (by omega) (by omega)).mono ?_
  rintro e w1 ⟨rfl, rfl⟩
  go_wp2_with fail
  refine (c_toItemS a0 _ cap0 x0 _ (h0.below (Nat.le_refl _) B) (by omega)).mono ?_
  rintro e w1 ⟨AS0, cS0, rfl, S0, hb⟩
  replace B := bnext B hb
  clear hb
  go_wp2_with fail
  refine (c_toIntS a3 _ cap3 x3 _ (h3.below (Nat.le_refl _) B) (by omega)).mono ?_
  rintro e w2 ⟨AS3, cS3, rfl, S3, hb⟩
  replace B := bnext B hb
  replace S0 := S0.next hb
  clear hb
  go_wp2_with fail
  refine (c_breaksCost' AS0 _ cS0 x0 x1 x2 AS3 _ cS3 x3 _ S0.at_ S3.at_ (by omega)).mono ?_
  rintro e w3 ⟨rfl, hb⟩
  replace B := bnext B hb
  replace S0 := S0.next hb
  replace S3 := S3.next hb
  clear hb
  clear S0
  clear S3
  have sz_X0 := B.size
  go_wp2_with fail
  refine (c_toItemS a0 _ cap0 x0 _ (h0.below (Nat.le_refl _) B) (by omega)).mono ?_
  rintro e w4 ⟨AX0, cX0, rfl, X0, hb⟩
  replace B := bnext B hb
  clear hb
  have sz_X3 := B.size
  go_wp2_with fail
  refine (c_toIntS a3 _ cap3 x3 _ (h3.below (Nat.le_refl _) B) (by omega)).mono ?_
  rintro e w5 ⟨AX3, cX3, rfl, X3, hb⟩
  have ap_X0_X3 := own_apart X0 X3 (Nat.le_refl _)
  have ap_X3_X0 := own_apart' X0 X3 (Nat.le_refl _)
  replace B := bnext B hb
  replace X0 := X0.next hb
  clear hb
  go_wp2_with fail
  refine (c_breaksCost AX0 _ cX0 x0 x1 x2 AX3 _ cX3 x3 _ X0.at_ X3.at_ (by omega)).mono ?_
  rintro e w6 ⟨rfl, hb⟩
  replace B := bnext B hb
  replace X0 := X0.next hb
  replace X3 := X3.next hb
  clear hb
  go_wp2_with fail
  refine (c_toItemS a0 _ cap0 x0 _ (h0.below (Nat.le_refl _) B) (by omega)).mono ?_
  rintro e w7 ⟨AT0, cT0, rfl, T0, hb⟩
  replace B := bnext B hb
  replace X0 := X0.next hb
  replace X3 := X3.next hb
  clear hb
  go_wp2_with fail
  refine (c_eqItemS_same _ _ _ _ _ _ x0 _ X0.at_ T0.at_).mono ?_
  rintro e w8 ⟨rfl, hb⟩
  replace B := bnext B hb
  replace X0 := X0.next hb
  replace X3 := X3.next hb
  replace T0 := T0.next hb
  clear hb
  clear T0
  go_wp2_with fail
  refine (c_toIntS a3 _ cap3 x3 _ (h3.below (Nat.le_refl _) B) (by omega)).mono ?_
  rintro e w9 ⟨AT3, cT3, rfl, T3, hb⟩
  replace B := bnext B hb
  replace X0 := X0.next hb
  replace X3 := X3.next hb
  clear hb
  go_wp2_with fail
  refine (c_eqIntS_same _ _ _ _ _ _ x3 _ X3.at_ T3.at_).mono ?_
  rintro e w10 ⟨rfl, hb⟩
  replace B := bnext B hb
  replace X0 := X0.next hb
  replace X3 := X3.next hb
  replace T3 := T3.next hb
  clear hb
  clear T3
  go_wp2
  go_ret
  exact ⟨rfl, B⟩
end Go.Proofs.Ytadcbigioldejaa
