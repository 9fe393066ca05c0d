/- The walk of the law FnExactBestBreaks: it returns true, whatever comes in, and changes nothing that was there. No condition. -/
import Derived.Test.YtadcbigioldejaaBestB
import Derived.Test.YtadcbigioldejaaBestC
namespace Go.Proofs.Ytadcbigioldejaa
open Go.RowKit
set_option linter.unusedVariables false

set_option maxHeartbeats 400000 in
theorem w_FnExactBestBreaks (a0 : Option Addr) (len0 cap0 : Nat) (x0 : List Item) (x1 : Int) (x2 : Int) (w : World) (h0 : ItemsAt w a0 len0 cap0 x0) (l1 : -9223372036854775808 ≤ x1) (g1 : x1 ≤ 9223372036854775807) (l2 : -9223372036854775808 ≤ x2) (g2 : x2 ≤ 9223372036854775807) :
    Calls Try.prog 8 #[.slice a0 len0 cap0, .int .i64 x1, .int .i64 x2] w fun e w' => e = .returned (.bool true) ∧ Below w.heap.size w w' := by
  have l0 := h0.len
  have bd0 := h0.bd
  by_cases big0 : 1048576 < (len0 : Int)
  · go_enter Try.func8, Try.ntmps8
    go_wp2_with fail
    refine (c_szItemS_big a0 len0 cap0 _ _ (by omega) (by omega) (by omega)).mono ?_
    rintro e w1 ⟨rfl, rfl⟩
    go_wp2
    go_ret
    exact ⟨rfl, Below.refl _ _⟩
  subst l0
  have hr0 : ((bestBreaks x0 x1 x2)).length ≤ 1000000000000 := Nat.le_trans bestBreaks_len (by omega)
  have B := Below.refl w.heap.size w
  go_enter Try.func8, Try.ntmps8
  go_wp2_with fail
  refine (c_szItemS_ok a0 _ cap0 _ _ (by omega) (by omega)).mono ?_
  rintro e w1 ⟨rfl, rfl⟩
  go_wp2_with fail
  refine (c_toItemS a0 _ cap0 x0 _ (h0.below (Nat.le_refl _) B) (by omega)).mono ?_
  rintro e w1 ⟨AS0, cS0, rfl, S0, hb⟩
  replace B := bnext B hb
  clear hb
  go_wp2_with fail
  refine (c_bestBreaks' AS0 _ cS0 x0 x1 x2 _ S0.at_ ).mono ?_
  rintro e w2 ⟨AW0, cW0, rfl, W0, hb⟩
  replace B := bnext B hb
  replace S0 := S0.next hb
  clear hb
  clear S0
  have sz_X0 := B.size
  go_wp2_with fail
  refine (c_toItemS a0 _ cap0 x0 _ (h0.below (Nat.le_refl _) B) (by omega)).mono ?_
  rintro e w3 ⟨AX0, cX0, rfl, X0, hb⟩
  have ap_W0_X0 := own_apart W0 X0 (Nat.le_refl _)
  have ap_X0_W0 := own_apart' W0 X0 (Nat.le_refl _)
  replace B := bnext B hb
  replace W0 := W0.next hb
  clear hb
  have sz_G0 := B.size
  go_wp2_with fail
  refine (c_bestBreaks AX0 _ cX0 x0 x1 x2 _ X0.at_ ).mono ?_
  rintro e w4 ⟨AG0, cG0, rfl, G0, hb⟩
  have ap_W0_G0 := own_apart W0 G0 (Nat.le_refl _)
  have ap_G0_W0 := own_apart' W0 G0 (Nat.le_refl _)
  have ap_X0_G0 := own_apart X0 G0 (Nat.le_refl _)
  have ap_G0_X0 := own_apart' X0 G0 (Nat.le_refl _)
  replace B := bnext B hb
  replace W0 := W0.next hb
  replace X0 := X0.next hb
  clear hb
  go_wp2_with fail
  refine (c_eqIntS_same _ _ _ _ _ _ ((bestBreaks x0 x1 x2)) _ G0.at_ W0.at_).mono ?_
  rintro e w5 ⟨rfl, hb⟩
  replace B := bnext B hb
  replace W0 := W0.next hb
  replace X0 := X0.next hb
  replace G0 := G0.next hb
  clear hb
  go_wp2_with fail
  refine (c_toItemS a0 _ cap0 x0 _ (h0.below (Nat.le_refl _) B) (by omega)).mono ?_
  rintro e w6 ⟨AT0, cT0, rfl, T0, hb⟩
  replace B := bnext B hb
  replace W0 := W0.next hb
  replace X0 := X0.next hb
  replace G0 := G0.next hb
  clear hb
  go_wp2_with fail
  refine (c_eqItemS_same _ _ _ _ _ _ x0 _ X0.at_ T0.at_).mono ?_
  rintro e w7 ⟨rfl, hb⟩
  replace B := bnext B hb
  replace W0 := W0.next hb
  replace X0 := X0.next hb
  replace G0 := G0.next hb
  replace T0 := T0.next hb
  clear hb
  clear T0
  go_wp2_with fail
  refine (c_markItemS _ _ _ (x0) (1) _ X0 (by omega) (by omega) (by omega)).mono ?_
  rintro e w8 ⟨rfl, X0m, hg⟩
  replace B := b_own B X0 (by first | exact Nat.le_refl _ | exact sz_X0) hg
  replace W0 : OwnI w8 _ _ _ _ := World.ownsRow.kept W0 hg ap_W0_X0
  replace G0 : OwnI w8 _ _ _ _ := World.ownsRow.kept G0 hg ap_G0_X0
  clear X0 hg
  have X0 := X0m
  clear X0m
  clear X0
  go_wp2_with fail
  refine (c_eqIntS_same _ _ _ _ _ _ ((bestBreaks x0 x1 x2)) _ G0.at_ W0.at_).mono ?_
  rintro e w9 ⟨rfl, hb⟩
  replace B := bnext B hb
  replace W0 := W0.next hb
  replace G0 := G0.next hb
  clear hb
  go_wp2_with fail
  refine (c_markIntS _ _ _ ((bestBreaks x0 x1 x2)) (1) _ G0 (by omega) (by omega) (by omega)).mono ?_
  rintro e w10 ⟨rfl, G0m, hg⟩
  replace B := b_own B G0 (by first | exact Nat.le_refl _ | exact sz_G0) hg
  replace W0 : OwnI w10 _ _ _ _ := World.ownsRow.kept W0 hg ap_W0_G0
  clear G0 hg
  have G0 := G0m
  clear G0m
  go_wp2_with fail
  refine (c_heldIntS _ _ ((bestBreaks x0 x1 x2)).length (1) _ (marks_atIntS G0) (by omega) (by omega) (by omega)).mono ?_
  rintro e w11 ⟨rfl, hb⟩
  replace B := bnext B hb
  replace W0 := W0.next hb
  replace G0 := G0.next hb
  clear hb
  go_wp2_with fail
  refine (c_toItemS a0 _ cap0 x0 _ (h0.below (Nat.le_refl _) B) (by omega)).mono ?_
  rintro e w12 ⟨AY0, cY0, rfl, Y0, hb⟩
  replace B := bnext B hb
  replace W0 := W0.next hb
  replace G0 := G0.next hb
  clear hb
  go_wp2_with fail
  refine (c_bestBreaks AY0 _ cY0 x0 x1 x2 _ Y0.at_ ).mono ?_
  rintro e w13 ⟨AH0, cH0, rfl, H0, hb⟩
  replace B := bnext B hb
  replace W0 := W0.next hb
  replace G0 := G0.next hb
  replace Y0 := Y0.next hb
  clear hb
  clear Y0
  go_wp2_with fail
  refine (c_eqIntS_same _ _ _ _ _ _ ((bestBreaks x0 x1 x2)) _ H0.at_ W0.at_).mono ?_
  rintro e w14 ⟨rfl, hb⟩
  replace B := bnext B hb
  replace W0 := W0.next hb
  replace G0 := G0.next hb
  replace H0 := H0.next hb
  clear hb
  go_wp2_with fail
  refine (c_heldIntS _ _ ((bestBreaks x0 x1 x2)).length (1) _ (marks_atIntS G0) (by omega) (by omega) (by omega)).mono ?_
  rintro e w15 ⟨rfl, hb⟩
  replace B := bnext B hb
  replace W0 := W0.next hb
  replace G0 := G0.next hb
  replace H0 := H0.next hb
  clear hb
  go_wp2
  go_ret
  exact ⟨rfl, B⟩
end Go.Proofs.Ytadcbigioldejaa
