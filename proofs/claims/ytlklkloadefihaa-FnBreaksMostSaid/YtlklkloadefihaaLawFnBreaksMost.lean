/- The walk of the law FnBreaksMost: for every code it returns true and changes nothing that was there. No condition. -/
import Derived.Test.YtlklkloadefihaaMc
import Derived.Test.YtlklkloadefihaaMbt
import Derived.Test.YtlklkloadefihaaBestC
import Derived.Test.YtlklkloadefihaaDrawW
import Derived.Test.YtlklkloadefihaaMa
namespace Go.Proofs.Ytlklkloadefihaa
open Go.RowKit
set_option linter.unusedVariables false

set_option maxRecDepth 100000 in
set_option maxHeartbeats 6400000 in
theorem w_FnBreaksMost (A : Option Addr) (n c : Nat) (xs : List Int) (w : World) (h : CodeAt w A n c xs) :
    Calls Try.prog 9 #[.slice A n c] w fun e w' => e = .returned (.bool true) ∧ Below w.heap.size w w' := by
  have hcm := h.2
  unfold maxLen at hcm
  by_cases hbig : 1048576 < n
  · go_enter Try.func9, Try.ntmps9
    go_wp2
    go_ret
    exact ⟨rfl, Below.refl _ _⟩
  · go_enter Try.func9, Try.ntmps9
    go_wp2_with fail
    refine (c_drawBestBreaks A n c xs _ h).mono ?_
    rintro e w1 ⟨A1, c1, rs, y, z, rfl, hl1, R, B⟩
    have hbdR := R.at_.bd
    clear hbig hcm h
    cases hq : bestBr rs y z with
    | none =>
      have hP : bestBreaks rs y z = [] := by rw [bestBreaks, hq] <;> rfl
      have HQ := hide hq
      clear hq
      go_wp2_with fail
      refine (c_bestBreaks A1 _ c1 rs y z _ R.at_).mono ?_
      rintro e w2 ⟨A2, c2, he, X, hb⟩
      rw [hP, unhide HQ] at he
      rw [hP] at X
      subst he
      replace B := bnext B hb
      replace R := R.next hb
      clear hb
      go_wp2_with fail
      refine (c_bestBreaks' A1 _ c1 rs y z _ R.at_).mono ?_
      rintro e w3 ⟨A3, c3, he, Y, hb⟩
      rw [hP, unhide HQ] at he
      rw [hP] at Y
      subst he
      replace B := bnext B hb
      replace R := R.next hb
      replace X := X.next hb
      clear hb hP HQ
      go_wp2_with fail
      refine (c_sameInts_same _ _ _ _ _ _ [] _ X.at_ Y.at_).mono ?_
      rintro e w4 ⟨rfl, hb⟩
      replace B := bnext B hb
      replace R := R.next hb
      replace X := X.next hb
      clear hb Y
      clear X
      go_wp2_with fail
      refine (c_alive _).mono ?_
      rintro e w9 ⟨rfl, hb⟩
      go_wp2
      go_ret
      exact ⟨rfl, bnext B hb⟩
    | some b =>
      have hP : bestBreaks rs y z = b := by rw [bestBreaks, hq] <;> rfl
      obtain ⟨hbl, hb0⟩ : b.length ≤ rs.length ∧ 0 ≤ brCost rs y z b := ⟨(bestBr_some_cost hq).2.2.2.1, (bestBr_some_cost hq).2.2.1⟩
      obtain ⟨b', hq', hle⟩ := bestBr_most hq
      have hP' : bestBreaks rs y 10000 = b' := by rw [bestBreaks, hq'] <;> rfl
      have hbl' := (bestBr_some_cost hq').2.2.2.1
      obtain ⟨p, HC1⟩ : ∃ p, Hid (brCost rs y z b = p) := ⟨_, rfl⟩
      obtain ⟨q, HC2⟩ : ∃ q, Hid (brCost rs y 10000 b' = q) := ⟨_, rfl⟩
      rw [unhide HC1] at hle hb0
      rw [unhide HC2] at hle
      have HQ := hide hq
      have HQ' := hide hq'
      have HP' := hide hP'
      clear hq hq' hP'
      go_wp2_with fail
      refine (c_bestBreaks A1 _ c1 rs y z _ R.at_).mono ?_
      rintro e w2 ⟨A2, c2, he, X, hb⟩
      rw [hP, unhide HQ] at he
      rw [hP] at X
      subst he
      replace B := bnext B hb
      replace R := R.next hb
      clear hb
      go_wp2_with fail
      refine (c_bestBreaks' A1 _ c1 rs y z _ R.at_).mono ?_
      rintro e w3 ⟨A3, c3, he, Y, hb⟩
      rw [hP, unhide HQ] at he
      rw [hP] at Y
      subst he
      replace B := bnext B hb
      replace R := R.next hb
      replace X := X.next hb
      clear hb hP HQ
      go_wp2_with fail
      refine (c_sameInts_same _ _ _ _ _ _ b _ X.at_ Y.at_).mono ?_
      rintro e w4 ⟨rfl, hb⟩
      replace B := bnext B hb
      replace R := R.next hb
      replace X := X.next hb
      clear hb Y
      go_wp2_with fail
      refine (c_bestBreaks A1 _ c1 rs y 10000 _ R.at_).mono ?_
      rintro e w5 ⟨A5, c5, he, Z, hb⟩
      rw [unhide HP', unhide HQ'] at he
      rw [unhide HP'] at Z
      subst he
      replace B := bnext B hb
      replace R := R.next hb
      replace X := X.next hb
      clear hb HP' HQ'
      go_wp2_with fail
      refine (c_breaksCost A1 _ c1 rs y 10000 _ _ _ b' _ R.at_ Z.at_ (by omega)).mono ?_
      rintro e w6 ⟨he, hb⟩
      rw [unhide HC2] at he
      subst he
      replace B := bnext B hb
      replace R := R.next hb
      replace X := X.next hb
      clear hb Z HC2
      go_wp2_with fail
      refine (c_breaksCost A1 _ c1 rs y z _ _ _ b _ R.at_ X.at_ (by omega)).mono ?_
      rintro e w7 ⟨he, hb⟩
      rw [unhide HC1] at he
      subst he
      replace B := bnext B hb
      replace R := R.next hb
      clear hb X HC1 R
      have hd : decide (q ≤ p) = true := decide_eq_true hle
      go_wp2
      go_ret
      exact ⟨rfl, B⟩
end Go.Proofs.Ytlklkloadefihaa
