/- The walk of the law FnExactMakeLeaves: it returns true, whatever comes in, and changes nothing that was there. No condition. -/
import Derived.Test.YtfflnkkhemaanaaMake
import Derived.Test.YtfflnkkhemaanaaMake2
import Derived.Test.YtfflnkkhemaanaaMakeR
namespace Go.Proofs.Ytfflnkkhemaanaa
open Go.RowKit
set_option linter.unusedVariables false

set_option maxHeartbeats 1600000 in
theorem w_FnExactMakeLeaves (a0 : Option Addr) (len0 cap0 : Nat) (x0 : List Row) (x1 : Int) (w : World) (h0 : RowsAt w a0 len0 cap0 x0) (l1 : -9223372036854775808 ≤ x1) (g1 : x1 ≤ 9223372036854775807) :
    Calls Try.prog 9 #[.slice a0 len0 cap0, .int .i64 x1] w fun e w' => e = .returned (.bool true) ∧ Below w.heap.size w w' := by
  have l0 := h0.len
  have bd0 := h0.bd
  by_cases big0 : 1048576 < (len0 : Int)
  · go_enter Try.func9, Try.ntmps9
    go_wp2_with fail
    refine (c_szRowS_big a0 len0 cap0 _ _ (by omega) (by omega) (by omega)).mono ?_
    rintro e w1 ⟨rfl, rfl⟩
    go_wp2
    go_ret
    exact ⟨rfl, Below.refl _ _⟩
  subst l0
  have B := Below.refl w.heap.size w
  go_enter Try.func9, Try.ntmps9
  go_wp2_with fail
  refine (c_szRowS_ok a0 _ cap0 _ _ (by omega) (by omega)).mono ?_
  rintro e w1 ⟨rfl, rfl⟩
  go_wp2_with fail
  refine (c_toRowS a0 _ cap0 x0 _ (h0.below (Nat.le_refl _) B) (by omega)).mono ?_
  rintro e w1 ⟨AS, cS, rfl, S, hb⟩
  replace B := bnext B hb
  clear hb
  go_wp2_with fail
  refine (c_makeLeaves' AS _ cS x0 x1 _ S.at_).mono ?_
  rintro e w2 ⟨AW, cW, lW, rfl, eW, W0, hb⟩
  replace B := bnext B hb
  have W := W0.at_
  have EW := hide eW
  have hlW := lfs_len eW
  obtain ⟨ok, HOK⟩ : ∃ ok, Hid (makeOk x0 x1 = ok) := ⟨_, rfl⟩
  rw [unhide HOK]
  clear hb S W0 eW
  have hok : (ok != ok) = false := by simp
  have sW := B.size
  go_wp2_with fail
  refine (c_toRowS a0 _ cap0 x0 _ (h0.below (Nat.le_refl _) B) (by omega)).mono ?_
  rintro e w3 ⟨AX, cX, rfl, X, hb⟩
  replace B := bnext B hb
  have BW := hb
  clear hb
  have sX := B.size
  have sXW := BW.size
  go_wp2_with fail
  refine (c_makeLeaves AX _ cX x0 x1 _ X.at_).mono ?_
  rintro e w4 ⟨AG, cG, lG, he, eG, G, hb⟩
  rw [unhide HOK] at he
  subst he
  replace B := bnext B hb
  replace BW := bnext BW hb
  have X0 := X
  clear X
  have EG := hide eG
  have hlG := lfs_len eG
  have hfG := hide (lfs_figs eG)
  have apX : ∀ k, (Value.slice AX x0.length cX).ownBlock = some k → k < w3.heap.size := fun k hk => (World.ownsRow.lt X0 k hk).2
  have X := X0.next hb
  clear hb eG
  have WA := W.below (Nat.le_refl _) BW
  go_wp2_with fail
  refine (c_eqLeafS_same _ _ _ _ _ _ lG lW _ G.at_ WA ((unhide EG).trans (unhide EW).symm)).mono ?_
  rintro e w5 ⟨rfl, hb⟩
  replace B := bnext B hb
  replace BW := bnext BW hb
  replace X := X.next hb
  replace G := G.next hb
  clear hb WA
  go_wp2_with fail
  refine (c_toRowS a0 _ cap0 x0 _ (h0.below (Nat.le_refl _) B) (by omega)).mono ?_
  rintro e w6 ⟨AT, cT, rfl, T, hb⟩
  replace B := bnext B hb
  replace BW := bnext BW hb
  replace X := X.next hb
  replace G := G.next hb
  clear hb
  go_wp2_with fail
  refine (c_eqRowS_same _ _ _ _ _ _ x0 _ X.at_ T.at_).mono ?_
  rintro e w7 ⟨rfl, hb⟩
  replace B := bnext B hb
  replace BW := bnext BW hb
  replace X := X.next hb
  replace G := G.next hb
  clear hb T
  go_wp2_with fail
  refine (c_markRowS _ _ _ x0 1 _ X (by omega) (by omega) (by omega)).mono ?_
  rintro e w8 ⟨rfl, X0m, hg⟩
  replace B := b_own B X sW hg
  replace BW := b_own BW X (Nat.le_refl _) hg
  replace G := G.kept hg apX
  clear X hg X0m apX X0
  have WA := W.below (Nat.le_refl _) BW
  go_wp2_with fail
  refine (c_eqLeafS_same _ _ _ _ _ _ lG lW _ G.at_ WA ((unhide EG).trans (unhide EW).symm)).mono ?_
  rintro e w9 ⟨rfl, hb⟩
  replace B := bnext B hb
  replace BW := bnext BW hb
  replace G := G.next hb
  clear hb WA
  have hfG' : ∀ l ∈ lG, l.figs.length ≤ 1000 := fun l hl => by have := unhide hfG l hl; omega
  have HFG := hide hfG'
  obtain ⟨me, HME⟩ : ∃ me, Hid (markEnd 1 lG = me) := ⟨_, rfl⟩
  have hme0 : 1 ≤ me := by rw [← unhide HME]; exact markEnd_ge _ _
  have hme1 : me ≤ 1000000000 := by
    have h1 := markEnd_le lG 1 1000 hfG'
    rw [unhide HME] at h1
    have h2 : (lG.length : Int) ≤ 60000 := by omega
    have h3 : (lG.length : Int) * (3 + ((1000 : Nat) : Int)) ≤ 60000 * 1003 := by
      have : (3 + ((1000 : Nat) : Int)) = 1003 := rfl
      rw [this]; omega
    omega
  clear hfG'
  go_wp2_with fail
  refine (c_markLeafS _ _ _ lG _ G (by omega) (unhide HFG)).mono ?_
  rintro e w10 ⟨he, Gm, hb⟩
  rw [unhide HME] at he
  subst he
  replace B := B.trans (hb.mono sX)
  replace BW := BW.trans (hb.mono sXW)
  replace G := Gm
  clear hb Gm
  have GA := G.at_
  rw [markL_len] at GA
  obtain ⟨LG, HLG⟩ : ∃ LG, Hid (lG.length = LG) := ⟨_, rfl⟩
  rw [unhide HLG] at GA hlG ⊢
  go_wp2_with fail
  refine (c_heldLeafS _ _ _ lG _ GA (by omega) (unhide HFG)).mono ?_
  rintro e w11 ⟨he, hb⟩
  rw [unhide HME] at he
  subst he
  replace B := bnext B hb
  replace BW := bnext BW hb
  replace GA := GA.next hb
  clear hb G
  go_wp2_with fail
  refine (c_toRowS a0 _ cap0 x0 _ (h0.below (Nat.le_refl _) B) (by omega)).mono ?_
  rintro e w12 ⟨AY, cY, rfl, Y, hb⟩
  replace B := bnext B hb
  replace BW := bnext BW hb
  replace GA := GA.next hb
  clear hb
  go_wp2_with fail
  refine (c_makeLeaves AY _ cY x0 x1 _ Y.at_).mono ?_
  rintro e w13 ⟨AH, cH, lH, he, eH, H, hb⟩
  rw [unhide HOK] at he
  subst he
  replace B := bnext B hb
  replace BW := bnext BW hb
  replace GA := GA.next hb
  have EH := hide eH
  clear hb eH Y
  have WA := W.below (Nat.le_refl _) BW
  go_wp2_with fail
  refine (c_eqLeafS_same _ _ _ _ _ _ lH lW _ H.at_ WA ((unhide EH).trans (unhide EW).symm)).mono ?_
  rintro e w14 ⟨rfl, hb⟩
  replace B := bnext B hb
  replace GA := GA.next hb
  clear hb WA H
  go_wp2_with fail
  refine (c_heldLeafS _ _ _ lG _ GA (by omega) (unhide HFG)).mono ?_
  rintro e w15 ⟨he, hb⟩
  rw [unhide HME] at he
  subst he
  go_wp2
  go_ret
  exact ⟨rfl, bnext B hb⟩
end Go.Proofs.Ytfflnkkhemaanaa
