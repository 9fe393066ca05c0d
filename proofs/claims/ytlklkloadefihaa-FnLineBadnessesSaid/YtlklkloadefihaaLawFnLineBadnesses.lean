/- The walk of the law FnLineBadnesses: for every code it returns true and changes nothing that was there. No condition. -/
import Derived.Test.YtlklkloadefihaaMc
import Derived.Test.YtlklkloadefihaaMf
import Derived.Test.YtlklkloadefihaaDrawE
import Derived.Test.YtlklkloadefihaaMa
namespace Go.Proofs.Ytlklkloadefihaa
open Go.RowKit
set_option linter.unusedVariables false

set_option maxRecDepth 100000 in
set_option maxHeartbeats 6400000 in
theorem w_FnLineBadnesses (A : Option Addr) (n c : Nat) (xs : List Int) (w : World) (h : CodeAt w A n c xs) :
    Calls Try.prog 4 #[.slice A n c] w fun e w' => e = .returned (.bool true) ∧ Below w.heap.size w w' := by
  have hcm := h.2
  unfold maxLen at hcm
  by_cases hbig : 1048576 < n
  · go_enter Try.func4, Try.ntmps4
    go_wp2
    go_ret
    exact ⟨rfl, Below.refl _ _⟩
  · go_enter Try.func4, Try.ntmps4
    go_wp2_with fail
    refine (c_drawLineBadnesses A n c xs _ h).mono ?_
    rintro e w1 ⟨A1, c1, rs, y, A2, c2, b, rfl, hl1, hl2, R, X, B⟩
    have hbdR := R.at_.bd
    have RA := R.at_
    have XA := X.at_
    have hbdX := XA.bd
    clear hbig hcm h R X
    obtain ⟨l, HL⟩ : ∃ l, Hid (lineBads rs y b = l) := ⟨_, rfl⟩
    have hbnd := lineBads_bd (rs := rs) (width := y) b
    rw [unhide HL] at hbnd
    have HBD := hide hbnd.1
    have hll := hbnd.2
    have hlb : l.length ≤ b.length := by omega
    clear hbnd
    go_wp2_with fail
    refine (c_lineBadnesses A1 _ c1 rs y _ _ _ b _ RA XA (by omega)).mono ?_
    rintro e w2 ⟨A5, c5, he, L, hb⟩
    rw [unhide HL] at he L
    subst he
    replace B := bnext B hb
    replace RA := RA.next hb
    replace XA := XA.next hb
    clear hb
    go_wp2_with fail
    refine (c_lineBadnesses' A1 _ c1 rs y _ _ _ b _ RA XA (by omega)).mono ?_
    rintro e w3 ⟨A6, c6, he, M, hb⟩
    rw [unhide HL] at he M
    subst he
    replace B := bnext B hb
    have LA := L.at_.next hb
    have MA := M.at_
    clear hb RA XA L M HL
    have HLL := hide hll
    clear hll
    go_wp2_with fail
    refine (c_sameInts_same _ _ _ _ _ _ l _ LA MA).mono ?_
    rintro e w4 ⟨rfl, hb⟩
    replace B := bnext B hb
    replace LA := LA.next hb
    clear hb MA
    go_wp2
    go_loop [7] (fun i => ∃ k : Nat, k ≤ l.length ∧ i = .int .i64 k) (fun i => l.length - (intOf i).toNat)
    case atStart => exact ⟨0, Nat.zero_le _, rfl⟩
    case round =>
      obtain ⟨k, hk, rfl⟩ := hrel
      by_cases hlt : k < l.length
      · obtain ⟨bx, ox, xk, rfl, hbx, hxx, hxc⟩ := LA.at_ hlt
        have hxb := unhide HBD xk (mem_of_get hxx)
        have g1 : decide (xk < 0) = false := decide_eq_false (by omega)
        have g2 : decide (10000 < xk) = false := decide_eq_false (by omega)
        clear hxx
        go_wp2
        go_round
        case rel => exact ⟨k + 1, by omega, by go_num⟩
        case measure => simp [intOf]; omega
      · by_cases h0 : l.length = 0
        · have g1 : ((l.length : Int) == 0) = true := by simp [h0]
          clear HLL
          go_wp2_with fail
          refine (c_alive _).mono ?_
          rintro e w9 ⟨rfl, hb⟩
          go_wp2
          go_ret
          exact ⟨rfl, bnext B hb⟩
        · have g1 : ((l.length : Int) == 0) = false := beq_eq_false_iff_ne.2 (by omega)
          have g2 : ((l.length : Int) == (b.length : Int)) = true := by
            rcases unhide HLL with h | h
            · exact absurd h h0
            · simp [h]
          clear HLL
          go_wp2_with fail
          refine (c_alive _).mono ?_
          rintro e w9 ⟨rfl, hb⟩
          go_wp2
          go_ret
          exact ⟨rfl, bnext B hb⟩
end Go.Proofs.Ytlklkloadefihaa
