/- The walk of the law FnBalanceRows: for every code it returns true and changes nothing that was there. No condition. -/
import Derived.Test.YtnbnkbfebekjhaaBal
import Derived.Test.YtnbnkbfebekjhaaDrawCols
import Derived.Test.YtnbnkbfebekjhaaAlive
namespace Go.Proofs.Ytnbnkbfebekjhaa
open Go.RowKit
set_option linter.unusedVariables false

theorem bal_law {rs : List Row} {M : Nat} (hv : rowsValid rs = true) (hM : 1 ≤ M ∧ M ≤ 6) :
    sumH rs ≤ M * (balN rs M : Int) ∧ ((balN rs M : Int) = 0 ∨ fitsB rs M ((balN rs M : Int) - 1) = false) ∧ (M = 6 ∨ balance rs ((M : Int) + 1) ≤ (balN rs M : Int)) := by
  have hin : inB (M : Int) 1 6 = true := inB_iff.2 (by omega)
  have hB := bal_is hv hin
  have h1 := (fits_iff hv hM).1 hB.fit
  have h0 := (inB_iff.1 h1.1).1
  refine ⟨?_, ?_, ?_⟩
  · have h2 := colEnd_sum (rs := rs) h0 M 0
    rw [h1.2, List.take_length] at h2
    have h4 : sumH (rs.take 0) = 0 := by simp [sumH]
    rw [h4] at h2
    omega
  · rcases Nat.eq_zero_or_pos (balN rs M) with hz | hz
    · exact .inl (by omega)
    · have := hB.no (balN rs M - 1) (by omega)
      rw [show ((balN rs M - 1 : Nat) : Int) = (balN rs M : Int) - 1 by omega] at this
      exact .inr this
  · by_cases h6 : M = 6
    · exact .inl h6
    · refine .inr ?_
      have hin2 : inB ((M + 1 : Nat) : Int) 1 6 = true := inB_iff.2 (by omega)
      have hB2 := bal_is (m := ((M + 1 : Nat) : Int)) hv hin2
      have e : balance rs ((M : Int) + 1) = (balN rs ((M + 1 : Nat) : Int) : Int) := by rw [balance, hv, show (M : Int) + 1 = ((M + 1 : Nat) : Int) by omega, hin2]; rfl
      rw [e]
      rcases Nat.lt_or_ge (balN rs M) (balN rs ((M + 1 : Nat) : Int)) with hlt | hge
      · have h2 := hB2.no _ hlt
        have h3 : fitsB rs ((M + 1 : Nat) : Int) (balN rs M : Int) = true := by
          refine (fits_iff hv (by omega)).2 ⟨h1.1, ?_⟩
          have h4 := colEnd_succ rs (balN rs M : Int) M 0
          have h5 := colEnd_le rs (balN rs M : Int) (M + 1) 0 (by omega)
          rw [h1.2] at h4
          omega
        rw [h3] at h2; cases h2
      · omega
set_option maxHeartbeats 3200000 in
theorem w_FnBalanceRows (A : Option Addr) (n c : Nat) (xs : List Int) (w : World) (h : CodeAt w A n c xs) :
    Calls Try.prog 6 #[.slice A n c] w fun e w' => e = .returned (.bool true) ∧ Below w.heap.size w w' := by
  have hcm := h.2
  unfold maxLen at hcm
  by_cases hbig : 1048576 < n
  · go_enter Try.func6, Try.ntmps6
    go_wp2
    go_ret
    exact ⟨rfl, Below.refl _ _⟩
  · go_enter Try.func6, Try.ntmps6
    go_wp2_with fail
    refine (c_drawBalanceRows A n c xs _ h).mono ?_
    rintro e w1 ⟨A1, c1, rs, m, rfl, hl1, ⟨hm0, hm1⟩, R, B⟩
    have hbdR := R.at_.bd
    clear hbig hcm h
    obtain ⟨q, HQ⟩ : ∃ q, Hid (q = balance rs m) := ⟨_, rfl⟩
    go_wp2_with fail
    refine (c_balanceRows A1 _ c1 rs m _ R.at_).mono ?_
    rintro e w2 ⟨he, hb⟩
    rw [← unhide HQ] at he
    subst he
    replace B := bnext B hb
    replace R := R.next hb
    clear hb
    go_wp2_with fail
    refine (c_balanceRows' A1 _ c1 rs m _ R.at_).mono ?_
    rintro e w3 ⟨he, hb⟩
    rw [← unhide HQ] at he
    subst he
    replace B := bnext B hb
    replace R := R.next hb
    clear hb
    rcases bal_cases rs m with ⟨h1, _⟩ | ⟨h1, _, hv, hin⟩
    · have hq := unhide HQ
      rw [h1] at hq
      clear HQ h1
      subst hq
      go_wp2_with fail
      refine (c_alive _).mono ?_
      rintro e w5 ⟨rfl, hb⟩
      go_wp2
      go_ret
      exact ⟨rfl, bnext B hb⟩
    · obtain ⟨M, hMm⟩ := Int.eq_ofNat_of_zero_le hm0
      obtain ⟨hM1, hM6⟩ := inB_iff.1 hin
      obtain ⟨l1, l2, l3⟩ := bal_law (M := M) hv (by omega)
      rw [← hMm] at l1 l2 l3
      replace l3 : m = 6 ∨ balance rs (m + 1) ≤ (balN rs m : Int) := by
        rcases l3 with h | h
        · exact .inl (by omega)
        · exact .inr h
      have hfit := (bal_is hv hin).fit
      have hbd := (bal_is hv hin).bd
      have hho := hide (heightOf_ok hv)
      have hs := sumH_bd (rowsValid_iff.1 hv).1
      have hl30 := (rowsValid_iff.1 hv).2
      obtain ⟨b, HBN⟩ : ∃ b, Hid (b = balN rs m) := ⟨_, rfl⟩
      obtain ⟨s, HS⟩ : ∃ s, Hid (s = sumH rs) := ⟨_, rfl⟩
      obtain ⟨t, HT⟩ : ∃ t, Hid (t = balance rs (m + 1)) := ⟨_, rfl⟩
      have hq := unhide HQ
      rw [h1] at hq
      clear HQ h1 hv hin
      rw [← unhide HBN] at hq l1 l2 l3 hfit hbd
      rw [← unhide HS] at l1 hs
      rw [← unhide HT] at l3
      have HFIT := hide hfit
      clear HBN hfit hm0 hm1 hMm
      subst hq
      obtain ⟨hs0, hs1⟩ := hs
      have hs2 : s ≤ 30000 := by omega
      obtain ⟨f2, HF2⟩ : ∃ f2, Hid (f2 = fitsB rs m ((b : Int) - 1)) := ⟨_, rfl⟩
      rw [← unhide HF2] at l2
      clear hs1
      go_wp2_with fail
      refine (c_columnsFit A1 _ c1 rs m (b : Int) _ R.at_).mono ?_
      rintro e w5 ⟨A5, c5, he, _, hb⟩
      rw [unhide HFIT] at he
      subst he
      replace B := bnext B hb
      replace R := R.next hb
      clear hb
      go_wp2_with fail
      refine (c_columnsFit A1 _ c1 rs m ((b : Int) - 1) _ R.at_).mono ?_
      rintro e w6 ⟨A6, c6, he, _, hb⟩
      rw [← unhide HF2] at he
      subst he
      replace B := bnext B hb
      replace R := R.next hb
      clear hb HFIT HF2
      have hM7 : m = 1 ∨ m = 2 ∨ m = 3 ∨ m = 4 ∨ m = 5 ∨ m = 6 := by omega
      have HL1 := hide l1
      have HL3 := hide l3
      clear l1 l3 hM1 hM6
      have hz2 : ((b : Int) == 0) = true ∨ (((b : Int) == 0) = false ∧ f2 = false) := by
        rcases l2 with h0 | h0
        · exact .inl (by simp [h0])
        · by_cases hb0 : (b : Int) = 0
          · exact .inl (by simp [hb0])
          · exact .inr ⟨by simp; omega, h0⟩
      clear l2
      rcases hM7 with rfl | rfl | rfl | rfl | rfl | rfl
      all_goals
        have l1 := unhide HL1
        have l3 := unhide HL3
        rcases hz2 with hz2 | ⟨hz2, rfl⟩
        all_goals
          go_wp2_with fail
          refine (c_heightOf A1 _ c1 rs _ R.at_).mono ?_
          rintro e w7 ⟨he, hb⟩
          rw [unhide hho, ← unhide HS] at he
          subst he
          have B7 := bnext B hb
          have R7 := R.next hb
          clear hb B R
          have hge := l1
          rw [Int.mul_comm] at hge
          first
          | (go_wp2_with fail
             go_ret
             exact ⟨rfl, B7⟩)
          | (go_wp2_with fail
             refine (c_balanceRows A1 _ c1 rs _ _ R7.at_).mono ?_
             rintro e w8 ⟨he, hb⟩
             have ht := unhide HT
             simp only [Int.reduceAdd] at ht
             rw [← ht] at he
             subst he
             have hle : t ≤ (b : Int) := by omega
             have B8 := bnext B7 hb
             clear ht hb
             go_wp2
             go_ret
             exact ⟨rfl, B8⟩)
end Go.Proofs.Ytnbnkbfebekjhaa
