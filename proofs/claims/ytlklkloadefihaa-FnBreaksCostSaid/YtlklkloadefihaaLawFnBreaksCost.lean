/- The walk of the law FnBreaksCost: for every code it returns true and changes nothing that was there. No condition. -/
import Derived.Test.YtlklkloadefihaaMc
import Derived.Test.YtlklkloadefihaaDrawE
import Derived.Test.YtlklkloadefihaaMa
namespace Go.Proofs.Ytlklkloadefihaa
open Go.RowKit
set_option linter.unusedVariables false

set_option maxRecDepth 100000 in
set_option maxHeartbeats 6400000 in
theorem w_FnBreaksCost (A : Option Addr) (n c : Nat) (xs : List Int) (w : World) (h : CodeAt w A n c xs) :
    Calls Try.prog 8 #[.slice A n c] w fun e w' => e = .returned (.bool true) ∧ Below w.heap.size w w' := by
  have hcm := h.2
  unfold maxLen at hcm
  by_cases hbig : 1048576 < n
  · go_enter Try.func8, Try.ntmps8
    go_wp2
    go_ret
    exact ⟨rfl, Below.refl _ _⟩
  · go_enter Try.func8, Try.ntmps8
    go_wp2_with fail
    refine (c_drawBreaksCost A n c xs _ h).mono ?_
    rintro e w1 ⟨A1, c1, rs, y, z, A2, c2, b, rfl, hl1, hl2, R, X, B⟩
    have hbdR := R.at_.bd
    have RA := R.at_
    have XA := X.at_
    have hbdX := XA.bd
    clear hbig hcm h R X
    obtain ⟨q, HQ⟩ : ∃ q, Hid (brCost rs y z b = q) := ⟨_, rfl⟩
    have HM : Hid (0 ≤ q → brCost rs y 10000 b = q ∧ 0 < b.length ∧ b.getLast? = some ((rs.length : Int) - 1) ∧ 100 * (b.length : Int) ≤ q) := fun h => by
      have := brCost_most (bs := b) (rs := rs) (width := y) (most := z) (by rw [unhide HQ]; exact h)
      rw [unhide HQ] at this; exact this
    have HN : Hid (q < 0 → q = -1) := fun h => by
      rcases brCost_cases (rs := rs) (width := y) (most := z) b with h1 | ⟨n, _, hc, hp⟩
      · rw [unhide HQ] at h1; exact h1
      · have := costSum_pos hc; rw [unhide HQ] at hp; omega
    go_wp2_with fail
    refine (c_breaksCost A1 _ c1 rs y z _ _ _ b _ RA XA (by omega)).mono ?_
    rintro e w2 ⟨he, hb⟩
    rw [unhide HQ] at he
    subst he
    replace B := bnext B hb
    replace RA := RA.next hb
    replace XA := XA.next hb
    clear hb
    go_wp2_with fail
    refine (c_breaksCost' A1 _ c1 rs y z _ _ _ b _ RA XA (by omega)).mono ?_
    rintro e w3 ⟨he, hb⟩
    rw [unhide HQ] at he
    subst he
    replace B := bnext B hb
    replace RA := RA.next hb
    replace XA := XA.next hb
    clear hb HQ
    have gq : (q != q) = false := by simp
    by_cases h0 : q < 0
    · obtain rfl : q = -1 := unhide HN h0
      clear HN HM gq h0 RA XA
      go_wp2_with fail
      refine (c_alive _).mono ?_
      rintro e w9 ⟨rfl, hb⟩
      go_wp2
      go_ret
      exact ⟨rfl, bnext B hb⟩
    · have g0 : decide (q < 0) = false := decide_eq_false h0
      obtain ⟨hc2, hpos, hlast, h100⟩ := unhide HM (by omega)
      obtain ⟨m, hm⟩ : ∃ m, b.length = m + 1 := ⟨b.length - 1, by omega⟩
      have hlx : b[m]? = some ((rs.length : Int) - 1) := by
        rw [List.getLast?_eq_getElem?, hm] at hlast; simpa using hlast
      obtain ⟨bx, ox, xk, rfl, hbx, hxx, hxc⟩ := XA.at_ (k := m) (by omega)
      obtain rfl : xk = (rs.length : Int) - 1 := by rw [hlx] at hxx; exact (Option.some.inj hxx).symm
      have HC2 := hide hc2
      have g1 : decide (0 < (b.length : Int)) = true := decide_eq_true (by omega)
      have hw1 : IntKind.i64.wrap ((b.length : Int) - 1) = (m : Int) := by rw [hm, IntWalk.i64_in _ (by omega)]; omega
      have hmi : (m : Int) < (b.length : Int) := by omega
      have hml : m < b.length := by omega
      have g3 : decide (100 * (b.length : Int) ≤ q) = true := decide_eq_true h100
      have ge : (((rs.length : Int) - 1) == ((rs.length : Int) - 1)) = true := by simp
      clear hc2 hlast hm hlx hxx HN HM
      go_wp2_with fail
      refine (c_breaksCost A1 _ c1 rs y 10000 _ _ _ b _ RA XA (by omega)).mono ?_
      rintro e w4 ⟨he, hb⟩
      rw [unhide HC2] at he
      subst he
      go_wp2
      go_ret
      exact ⟨rfl, bnext B hb⟩
end Go.Proofs.Ytlklkloadefihaa
