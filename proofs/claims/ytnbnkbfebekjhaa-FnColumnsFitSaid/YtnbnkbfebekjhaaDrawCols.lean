/- Drawing rows, a number of columns and a height. No condition. -/
import Derived.Test.YtnbnkbfebekjhaaDrawRows2
namespace Go.Proofs.Ytnbnkbfebekjhaa
open Go.RowKit
set_option linter.unusedVariables false

set_option maxHeartbeats 800000 in
theorem c_drawBalanceRows (A : Option Addr) (n c : Nat) (xs : List Int) (w : World) (h : CodeAt w A n c xs) :
    Calls Try.prog 25 #[.slice A n c] w fun e w' => ∃ (A : Option Addr) (c : Nat) (rs : List Row) (m : Int), e = .returned (.tuple #[.slice A rs.length c, .int .i64 m]) ∧ rs.length ≤ 31 ∧ (0 ≤ m ∧ m ≤ 7) ∧ OwnR w' w.heap.size A c rs ∧ Below w.heap.size w w' := by
  go_enter Try.func25, Try.ntmps25
  go_wp2_with fail
  refine (r_open A n c xs _ h).mono ?_
  rintro e w1 ⟨g, rfl, hg, hr, hb⟩
  go_wp2_with fail
  refine (r_rows' g _ 9 _ hr (by omega) (by omega)).mono ?_
  rintro e w2 ⟨A2, c2, rs, rfl, hl, O, hr2, hg2⟩
  have hgl := hr.lt
  go_wp2_with fail
  refine (r_pick g _ _ _ hr2 (by omega)).mono ?_
  rintro e w3 ⟨x, rfl, hx, hr3, hg3⟩
  have O3 : OwnR w3 w1.heap.size A2 c2 rs := World.ownsRow.kept O hg3 (.inr (fun e => by have := (World.ownsRow.lt O _ e).1; omega))
  go_wp2
  go_ret2
  exact ⟨_, _, rs, x, rfl, hl, by omega, own_base O3 hb.size, r_fresh hg hb (gtrans hg2 hg3)⟩
set_option maxHeartbeats 400000 in
theorem c_drawBalanceColumns (A : Option Addr) (n c : Nat) (xs : List Int) (w : World) (h : CodeAt w A n c xs) :
    Calls Try.prog 28 #[.slice A n c] w fun e w' => ∃ (A : Option Addr) (c : Nat) (rs : List Row) (m : Int), e = .returned (.tuple #[.slice A rs.length c, .int .i64 m]) ∧ rs.length ≤ 31 ∧ (0 ≤ m ∧ m ≤ 7) ∧ OwnR w' w.heap.size A c rs ∧ Below w.heap.size w w' := by
  go_enter Try.func28, Try.ntmps28
  go_wp2_with fail
  refine (c_drawBalanceRows A n c xs _ h).mono ?_
  rintro e w1 ⟨A1, c1, rs, m, rfl, hl, hm, O, B⟩
  go_wp2
  go_ret2
  exact ⟨_, _, rs, m, rfl, hl, hm, O, B⟩
theorem div11 {x : Nat} (hx : x < 12) : 0 ≤ (x : Int).tdiv 11 ∧ (x : Int).tdiv 11 ≤ 1 := by
  rw [Int.tdiv_eq_ediv_of_nonneg (by omega)]; omega
set_option maxHeartbeats 1600000 in
theorem c_drawColumnsFit (A : Option Addr) (n c : Nat) (xs : List Int) (w : World) (h : CodeAt w A n c xs) :
    Calls Try.prog 19 #[.slice A n c] w fun e w' => ∃ (A : Option Addr) (c : Nat) (rs : List Row) (m y : Int), e = .returned (.tuple #[.slice A rs.length c, .int .i64 m, .int .i64 y]) ∧ rs.length ≤ 31 ∧ (0 ≤ m ∧ m ≤ 7) ∧ (-30 ≤ y ∧ y ≤ 30) ∧ OwnR w' w.heap.size A c rs ∧ Below w.heap.size w w' := by
  go_enter Try.func19, Try.ntmps19
  go_wp2_with fail
  refine (r_open A n c xs _ h).mono ?_
  rintro e w1 ⟨g, rfl, hg, hr, hb⟩
  go_wp2_with fail
  refine (r_rows' g _ 9 _ hr (by omega) (by omega)).mono ?_
  rintro e w2 ⟨A2, c2, rs, rfl, hl, O, hr2, hg2⟩
  have hgl := hr.lt
  go_wp2_with fail
  refine (r_pick g _ _ _ hr2 (by omega)).mono ?_
  rintro e w3 ⟨x, rfl, hx, hr3, hg3⟩
  go_wp2_with fail
  refine (r_pick g _ _ _ hr3 (by omega)).mono ?_
  rintro e w4 ⟨x4, rfl, hx4, hr4, hg4⟩
  go_wp2_with fail
  refine (r_pick g _ _ _ hr4 (by omega)).mono ?_
  rintro e w5 ⟨x5, rfl, hx5, hr5, hg5⟩
  have hd := div11 (x := x5) (by omega)
  have G := gtrans hg2 (gtrans (gtrans hg3 hg4) hg5)
  have O3 : OwnR w5 w1.heap.size A2 c2 rs := World.ownsRow.kept O (gtrans (gtrans hg3 hg4) hg5) (.inr (fun e => by have := (World.ownsRow.lt O _ e).1; omega))
  rcases (show x5 = 11 ∨ x5 < 11 by omega) with rfl | hlt
  · go_wp2
    go_ret3
    exact ⟨_, _, rs, x, _, rfl, hl, by omega, by omega, own_base O3 hb.size, r_fresh hg hb G⟩
  · have hd0 : (x5 : Int).tdiv 11 = 0 := by rw [Int.tdiv_eq_ediv_of_nonneg (by omega)]; omega
    go_wp2
    go_ret3
    simp only []
    exact ⟨_, _, rs, x, _, rfl, hl, by omega, by omega, own_base O3 hb.size, r_fresh hg hb G⟩
end Go.Proofs.Ytnbnkbfebekjhaa
