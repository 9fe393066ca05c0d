/- The walk of the law FnColumnOne: for every code it returns true and changes nothing that was there. No condition. -/
import Derived.Test.YtnbnkbfebekjhaaBal
import Derived.Test.YtnbnkbfebekjhaaDrawCols
import Derived.Test.YtnbnkbfebekjhaaAlive
namespace Go.Proofs.Ytnbnkbfebekjhaa
open Go.RowKit
set_option linter.unusedVariables false

theorem bal_one (rs : List Row) : balance rs 1 = heightOf rs := by
  cases hv : rowsValid rs
  · rw [balance, hv, heightOf, hv]; rfl
  · have hB := bal_is (m := 1) hv (by decide)
    have e : balance rs 1 = (balN rs 1 : Int) := by rw [balance, hv]; rfl
    rw [e, heightOf_ok hv]
    have h1 := (fits_iff (M := 1) hv (by omega)).1 hB.fit
    have h0 := (inB_iff.1 h1.1).1
    have h2 := colEnd_sum (rs := rs) h0 1 0
    rw [h1.2, List.take_length] at h2
    have h3 := hB.le
    have h4 : sumH (rs.take 0) = 0 := by simp [sumH]
    rw [h4] at h2
    omega
set_option maxHeartbeats 1600000 in
theorem w_FnColumnOne (A : Option Addr) (n c : Nat) (xs : List Int) (w : World) (h : CodeAt w A n c xs) :
    Calls Try.prog 7 #[.slice A n c] w fun e w' => e = .returned (.bool true) ∧ Below w.heap.size w w' := by
  have hcm := h.2
  unfold maxLen at hcm
  by_cases hbig : 1048576 < n
  · go_enter Try.func7, Try.ntmps7
    go_wp2
    go_ret
    exact ⟨rfl, Below.refl _ _⟩
  · go_enter Try.func7, Try.ntmps7
    go_wp2_with fail
    refine (c_drawBalanceRows A n c xs _ h).mono ?_
    rintro e w1 ⟨A1, c1, rs, m, rfl, hl1, ⟨hm0, hm1⟩, R, B⟩
    have hbdR := R.at_.bd
    clear hbig hcm h
    obtain ⟨q, HQ⟩ : ∃ q, Hid (q = balance rs m) := ⟨_, rfl⟩
    go_wp2_with fail
    refine (c_balanceRows A1 _ c1 rs m _ R.at_).mono ?_
    rintro e w2 ⟨he, hb⟩
    rw [← unhide HQ] at he
    subst he
    replace B := bnext B hb
    replace R := R.next hb
    clear hb
    go_wp2_with fail
    refine (c_balanceRows' A1 _ c1 rs m _ R.at_).mono ?_
    rintro e w3 ⟨he, hb⟩
    rw [← unhide HQ] at he
    subst he
    replace B := bnext B hb
    replace R := R.next hb
    clear hb HQ
    obtain ⟨s, HS⟩ : ∃ s, Hid (s = heightOf rs) := ⟨_, rfl⟩
    have H1 : Hid (balance rs 1 = s) := by show _ = _; rw [unhide HS]; exact bal_one rs
    go_wp2_with fail
    refine (c_balanceRows A1 _ c1 rs 1 _ R.at_).mono ?_
    rintro e w2 ⟨he, hb⟩
    rw [unhide H1] at he
    subst he
    replace B := bnext B hb
    replace R := R.next hb
    clear hb
    go_wp2_with fail
    refine (c_heightOf A1 _ c1 rs _ R.at_).mono ?_
    rintro e w2 ⟨he, hb⟩
    rw [← unhide HS] at he
    subst he
    replace B := bnext B hb
    clear hb HS H1
    go_wp2_with fail
    refine (c_alive _).mono ?_
    rintro e w5 ⟨rfl, hb⟩
    go_wp2
    go_ret
    exact ⟨rfl, bnext B hb⟩
end Go.Proofs.Ytnbnkbfebekjhaa
