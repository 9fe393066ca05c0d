/- The walk of the law FnExactPageHeadings: it returns true, whatever comes in, and changes nothing that was there. No condition. -/
import Derived.Test.YtdjilkohnhejiaaPageHeads
namespace Go.Proofs.Ytdjilkohnhejiaa
open Go.RowKit
set_option linter.unusedVariables false

set_option maxHeartbeats 400000 in
theorem w_FnExactPageHeadings (a0 : Option Addr) (len0 cap0 : Nat) (x0 : List Heading) (a1 : Option Addr) (len1 cap1 : Nat) (x1 : List Int) (w : World) (h0 : HeadsAt w a0 len0 cap0 x0) (h1 : IntsAt w a1 len1 cap1 x1) :
    Calls Try.prog 7 #[.slice a0 len0 cap0, .slice a1 len1 cap1] w fun e w' => e = .returned (.bool true) ∧ Below w.heap.size w w' := by
  have l0 := h0.len
  have bd0 := h0.bd
  have l1 := h1.len
  have bd1 := h1.bd
  by_cases big1 : 1048576 < len1
  · go_enter Try.func7, Try.ntmps7
    go_wp2
    go_ret
    exact ⟨rfl, Below.refl _ _⟩
  by_cases big0 : 1048576 < (len0 : Int)
  · go_enter Try.func7, Try.ntmps7
    go_wp2_with fail
    refine (c_szHeadingS_big a0 len0 cap0 _ _ (by omega) (by omega) (by omega)).mono ?_
    rintro e w1 ⟨rfl, rfl⟩
    go_wp2
    go_ret
    exact ⟨rfl, Below.refl _ _⟩
  subst l0
  subst l1
  have hr0 : (pageHeads x0 x1).length ≤ 1000000000000 := by have := pageHeads_len x0 x1; omega
  have B := Below.refl w.heap.size w
  go_enter Try.func7, Try.ntmps7
  go_wp2_with fail
  refine (c_szHeadingS_ok a0 _ cap0 _ _ (by omega) (by omega)).mono ?_
  rintro e w1 ⟨rfl, rfl⟩
  go_wp2_with fail
  refine (c_toHeadingS a0 _ cap0 x0 _ (h0.below (Nat.le_refl _) B) (by omega)).mono ?_
  rintro e w1 ⟨AS0, cS0, rfl, S0, hb⟩
  replace B := bnext B hb
  clear hb
  go_wp2_with fail
  refine (c_toIntS a1 _ cap1 x1 _ (h1.below (Nat.le_refl _) B) (by omega)).mono ?_
  rintro e w2 ⟨AS1, cS1, rfl, S1, hb⟩
  replace B := bnext B hb
  replace S0 := S0.next hb
  clear hb
  go_wp2_with fail
  refine (c_pageHeads' AS0 _ cS0 x0 AS1 _ cS1 x1 _ S0.at_ S1.at_ (by omega)).mono ?_
  rintro e w3 ⟨AW0, cW0, rfl, W0, hb⟩
  replace B := bnext B hb
  replace S0 := S0.next hb
  replace S1 := S1.next hb
  clear hb
  clear S0
  clear S1
  have sz_X0 := B.size
  go_wp2_with fail
  refine (c_toHeadingS a0 _ cap0 x0 _ (h0.below (Nat.le_refl _) B) (by omega)).mono ?_
  rintro e w4 ⟨AX0, cX0, rfl, X0, hb⟩
  have ap_W0_X0 := own_apart W0 X0 (Nat.le_refl _)
  have ap_X0_W0 := own_apart' W0 X0 (Nat.le_refl _)
  replace B := bnext B hb
  replace W0 := W0.next hb
  clear hb
  have sz_X1 := B.size
  go_wp2_with fail
  refine (c_toIntS a1 _ cap1 x1 _ (h1.below (Nat.le_refl _) B) (by omega)).mono ?_
  rintro e w5 ⟨AX1, cX1, rfl, X1, hb⟩
  have ap_W0_X1 := own_apart W0 X1 (Nat.le_refl _)
  have ap_X1_W0 := own_apart' W0 X1 (Nat.le_refl _)
  have ap_X0_X1 := own_apart X0 X1 (Nat.le_refl _)
  have ap_X1_X0 := own_apart' X0 X1 (Nat.le_refl _)
  replace B := bnext B hb
  replace W0 := W0.next hb
  replace X0 := X0.next hb
  clear hb
  have sz_G0 := B.size
  go_wp2_with fail
  refine (c_pageHeads AX0 _ cX0 x0 AX1 _ cX1 x1 _ X0.at_ X1.at_ (by omega)).mono ?_
  rintro e w6 ⟨AG0, cG0, rfl, G0, hb⟩
  have ap_W0_G0 := own_apart W0 G0 (Nat.le_refl _)
  have ap_G0_W0 := own_apart' W0 G0 (Nat.le_refl _)
  have ap_X0_G0 := own_apart X0 G0 (Nat.le_refl _)
  have ap_G0_X0 := own_apart' X0 G0 (Nat.le_refl _)
  have ap_X1_G0 := own_apart X1 G0 (Nat.le_refl _)
  have ap_G0_X1 := own_apart' X1 G0 (Nat.le_refl _)
  replace B := bnext B hb
  replace W0 := W0.next hb
  replace X0 := X0.next hb
  replace X1 := X1.next hb
  clear hb
  go_wp2_with fail
  refine (c_eqIntS_same _ _ _ _ _ _ (pageHeads x0 x1) _ G0.at_ W0.at_).mono ?_
  rintro e w7 ⟨rfl, hb⟩
  replace B := bnext B hb
  replace W0 := W0.next hb
  replace X0 := X0.next hb
  replace X1 := X1.next hb
  replace G0 := G0.next hb
  clear hb
  go_wp2_with fail
  refine (c_toHeadingS a0 _ cap0 x0 _ (h0.below (Nat.le_refl _) B) (by omega)).mono ?_
  rintro e w8 ⟨AT0, cT0, rfl, T0, hb⟩
  replace B := bnext B hb
  replace W0 := W0.next hb
  replace X0 := X0.next hb
  replace X1 := X1.next hb
  replace G0 := G0.next hb
  clear hb
  go_wp2_with fail
  refine (c_eqHeadingS_same _ _ _ _ _ _ x0 _ X0.at_ T0.at_).mono ?_
  rintro e w9 ⟨rfl, hb⟩
  replace B := bnext B hb
  replace W0 := W0.next hb
  replace X0 := X0.next hb
  replace X1 := X1.next hb
  replace G0 := G0.next hb
  replace T0 := T0.next hb
  clear hb
  clear T0
  go_wp2_with fail
  refine (c_toIntS a1 _ cap1 x1 _ (h1.below (Nat.le_refl _) B) (by omega)).mono ?_
  rintro e w10 ⟨AT1, cT1, rfl, T1, hb⟩
  replace B := bnext B hb
  replace W0 := W0.next hb
  replace X0 := X0.next hb
  replace X1 := X1.next hb
  replace G0 := G0.next hb
  clear hb
  go_wp2_with fail
  refine (c_eqIntS_same _ _ _ _ _ _ x1 _ X1.at_ T1.at_).mono ?_
  rintro e w11 ⟨rfl, hb⟩
  replace B := bnext B hb
  replace W0 := W0.next hb
  replace X0 := X0.next hb
  replace X1 := X1.next hb
  replace G0 := G0.next hb
  replace T1 := T1.next hb
  clear hb
  clear T1
  go_wp2_with fail
  refine (c_markHeadingS _ _ _ (x0) (1) _ X0 (by omega) (by omega) (by omega)).mono ?_
  rintro e w12 ⟨rfl, X0m, hg⟩
  replace B := b_own B X0 (by first | exact Nat.le_refl _ | exact sz_X0) hg
  replace W0 : OwnI w12 _ _ _ _ := World.ownsRow.kept W0 hg ap_W0_X0
  replace X1 : OwnI w12 _ _ _ _ := World.ownsRow.kept X1 hg ap_X1_X0
  replace G0 : OwnI w12 _ _ _ _ := World.ownsRow.kept G0 hg ap_G0_X0
  clear X0 hg
  have X0 := X0m
  clear X0m
  clear X0
  go_wp2_with fail
  refine (c_markIntS _ _ _ (x1) ((1 + 2 * (x0.length : Int))) _ X1 (by omega) (by omega) (by omega)).mono ?_
  rintro e w13 ⟨rfl, X1m, hg⟩
  replace B := b_own B X1 (by first | exact Nat.le_refl _ | exact sz_X1) hg
  replace W0 : OwnI w13 _ _ _ _ := World.ownsRow.kept W0 hg ap_W0_X1
  replace G0 : OwnI w13 _ _ _ _ := World.ownsRow.kept G0 hg ap_G0_X1
  clear X1 hg
  have X1 := X1m
  clear X1m
  clear X1
  go_wp2_with fail
  refine (c_eqIntS_same _ _ _ _ _ _ (pageHeads x0 x1) _ G0.at_ W0.at_).mono ?_
  rintro e w14 ⟨rfl, hb⟩
  replace B := bnext B hb
  replace W0 := W0.next hb
  replace G0 := G0.next hb
  clear hb
  go_wp2_with fail
  refine (c_markIntS _ _ _ (pageHeads x0 x1) (1) _ G0 (by omega) (by omega) (by omega)).mono ?_
  rintro e w15 ⟨rfl, G0m, hg⟩
  replace B := b_own B G0 (by first | exact Nat.le_refl _ | exact sz_G0) hg
  replace W0 : OwnI w15 _ _ _ _ := World.ownsRow.kept W0 hg ap_W0_G0
  clear G0 hg
  have G0 := G0m
  clear G0m
  go_wp2_with fail
  refine (c_heldIntS _ _ (pageHeads x0 x1).length (1) _ (marks_atIntS G0) (by omega) (by omega) (by omega)).mono ?_
  rintro e w16 ⟨rfl, hb⟩
  replace B := bnext B hb
  replace W0 := W0.next hb
  replace G0 := G0.next hb
  clear hb
  go_wp2_with fail
  refine (c_toHeadingS a0 _ cap0 x0 _ (h0.below (Nat.le_refl _) B) (by omega)).mono ?_
  rintro e w17 ⟨AY0, cY0, rfl, Y0, hb⟩
  replace B := bnext B hb
  replace W0 := W0.next hb
  replace G0 := G0.next hb
  clear hb
  go_wp2_with fail
  refine (c_toIntS a1 _ cap1 x1 _ (h1.below (Nat.le_refl _) B) (by omega)).mono ?_
  rintro e w18 ⟨AY1, cY1, rfl, Y1, hb⟩
  replace B := bnext B hb
  replace W0 := W0.next hb
  replace G0 := G0.next hb
  replace Y0 := Y0.next hb
  clear hb
  go_wp2_with fail
  refine (c_pageHeads AY0 _ cY0 x0 AY1 _ cY1 x1 _ Y0.at_ Y1.at_ (by omega)).mono ?_
  rintro e w19 ⟨AH0, cH0, rfl, H0, hb⟩
  replace B := bnext B hb
  replace W0 := W0.next hb
  replace G0 := G0.next hb
  replace Y0 := Y0.next hb
  replace Y1 := Y1.next hb
  clear hb
  clear Y0
  clear Y1
  go_wp2_with fail
  refine (c_eqIntS_same _ _ _ _ _ _ (pageHeads x0 x1) _ H0.at_ W0.at_).mono ?_
  rintro e w20 ⟨rfl, hb⟩
  replace B := bnext B hb
  replace W0 := W0.next hb
  replace G0 := G0.next hb
  replace H0 := H0.next hb
  clear hb
  go_wp2_with fail
  refine (c_heldIntS _ _ (pageHeads x0 x1).length (1) _ (marks_atIntS G0) (by omega) (by omega) (by omega)).mono ?_
  rintro e w21 ⟨rfl, hb⟩
  replace B := bnext B hb
  replace W0 := W0.next hb
  replace G0 := G0.next hb
  replace H0 := H0.next hb
  clear hb
  go_wp2
  go_ret
  exact ⟨rfl, B⟩
end Go.Proofs.Ytdjilkohnhejiaa
