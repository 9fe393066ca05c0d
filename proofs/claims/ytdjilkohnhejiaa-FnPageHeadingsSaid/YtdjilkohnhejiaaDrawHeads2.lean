/- Drawing headings, a page, pages. No condition. -/
import Derived.Test.YtdjilkohnhejiaaDrawHeads
namespace Go.Proofs.Ytdjilkohnhejiaa
open Go.RowKit
set_option linter.unusedVariables false

set_option maxHeartbeats 400000 in
theorem c_drawHeadingsValid (A : Option Addr) (n c : Nat) (xs : List Int) (w : World) (h : CodeAt w A n c xs) :
    Calls Try.prog 21 #[.slice A n c] w fun e w' => ∃ (A : Option Addr) (c : Nat) (rs : List Heading), e = .returned (.slice A rs.length c) ∧ rs.length ≤ 21 ∧ OwnH w' w.heap.size A c rs ∧ Below w.heap.size w w' := by
  go_enter Try.func21, Try.ntmps21
  go_wp2_with fail
  refine (r_open A n c xs _ h).mono ?_
  rintro e w1 ⟨g, rfl, hg, hr, hb⟩
  go_wp2_with fail
  refine (r_heads g _ 2 _ hr (by omega) (by omega)).mono ?_
  rintro e w2 ⟨A2, c2, rs, rfl, hl, ho, D⟩
  go_wp2
  go_ret
  exact ⟨_, _, rs, rfl, hl, own_base ho hb.size, r_fresh hg hb D.gr⟩
set_option maxHeartbeats 1600000 in
theorem c_drawHeadingsOf (A : Option Addr) (n c : Nat) (xs : List Int) (w : World) (h : CodeAt w A n c xs) :
    Calls Try.prog 25 #[.slice A n c] w fun e w' => ∃ (A : Option Addr) (c : Nat) (rs : List Heading) (a z : Int), e = .returned (.tuple #[.slice A rs.length c, .int .i64 a, .int .i64 z]) ∧ rs.length ≤ 21 ∧ (-100 ≤ a ∧ a ≤ 100) ∧ (-100 ≤ z ∧ z ≤ 100) ∧ OwnH w' w.heap.size A c rs ∧ Below w.heap.size w w' := by
  go_enter Try.func25, Try.ntmps25
  go_wp2_with fail
  refine (r_open A n c xs _ h).mono ?_
  rintro e w1 ⟨g, rfl, hg, hr, hb⟩
  go_wp2_with fail
  refine (r_heads g _ 9 _ hr (by omega) (by omega)).mono ?_
  rintro e w2 ⟨A2, c2, rs, rfl, hl, O, D⟩
  go_wp2_with fail
  refine (r_pick g _ _ _ D.rd (by omega)).mono ?_
  rintro e w3 ⟨x3, rfl, hx3, hr3, hg3⟩
  replace O := O.pick hg3 D.lt
  replace D := D.pick hr3 hg3
  clear hr3 hg3
  go_wp2_with fail
  refine (r_pick g _ _ _ D.rd (by omega)).mono ?_
  rintro e w4 ⟨x4, rfl, hx4, hr4, hg4⟩
  replace O := O.pick hg4 D.lt
  replace D := D.pick hr4 hg4
  clear hr4 hg4
  go_wp2_with fail
  refine (r_pick g _ _ _ D.rd (by omega)).mono ?_
  rintro e w5 ⟨x5, rfl, hx5, hr5, hg5⟩
  replace O := O.pick hg5 D.lt
  replace D := D.pick hr5 hg5
  clear hr5 hg5
  have b3 : x3 ≤ 30 := by omega
  have b4 : x4 ≤ 11 := by omega
  have b5 : x5 ≤ 8 := by omega
  clear hx3 hx4 hx5
  go_wp2_with fail
  all_goals
    refine (r_pick g _ _ _ D.rd (by omega)).mono ?_
    rintro e w6 ⟨x6, rfl, hx6, hr6, hg6⟩
    replace O := O.pick hg6 D.lt
    replace D := D.pick hr6 hg6
    clear hr6 hg6
    have b6 : x6 ≤ 11 := by omega
    clear hx6
    go_wp2
    go_ret3
    exact ⟨_, _, rs, _, _, rfl, hl, ⟨by omega, by omega⟩, ⟨by omega, by omega⟩, own_base O hb.size, r_fresh hg hb D.gr⟩
set_option maxHeartbeats 800000 in
theorem c_drawPageHeadings (A : Option Addr) (n c : Nat) (xs : List Int) (w : World) (h : CodeAt w A n c xs) :
    Calls Try.prog 33 #[.slice A n c] w fun e w' => ∃ (A : Option Addr) (c : Nat) (rs : List Heading) (A2 : Option Addr) (c2 : Nat) (es : List Int), e = .returned (.tuple #[.slice A rs.length c, .slice A2 es.length c2]) ∧ rs.length ≤ 21 ∧ es.length ≤ 5 ∧ OwnH w' w.heap.size A c rs ∧ OwnI w' w.heap.size A2 c2 es ∧ Below w.heap.size w w' := by
  go_enter Try.func33, Try.ntmps33
  go_wp2_with fail
  refine (r_open A n c xs _ h).mono ?_
  rintro e w1 ⟨g, rfl, hg, hr, hb⟩
  go_wp2_with fail
  refine (r_heads g _ 9 _ hr (by omega) (by omega)).mono ?_
  rintro e w2 ⟨A2, c2, rs, rfl, hl, O, D⟩
  have D2 := DSt.begin_ D.rd
  have I : OwnI (w2.alloc (.cells #[] 3)) w2.heap.size (some ⟨w2.heap.size, 0, none⟩) 0 [] := World.ownsRow_made w2 #[] 0 (Nat.le_refl _) (Nat.zero_le _) rfl
  have D3 := D2.alloc (.cells #[] 3)
  go_wp2_with fail
  refine (r_pick g _ _ _ D3.rd (by omega)).mono ?_
  rintro e w3 ⟨x3, rfl, hx3, hr3, hg3⟩
  replace I := I.pick hg3 D3.lt
  replace D3 := D3.pick hr3 hg3
  clear hr3 hg3 D2
  have b3 : x3 ≤ 5 := by omega
  go_wp2_with fail
  go_loopw [6, 7, 8] (fun v at_ i wr => ∃ (k : Nat) (p : Int) (A : Option Addr) (c : Nat) (es : List Int), k ≤ 5 ∧ i = .int .i64 k ∧ (-50 * (es.length : Int) ≤ p ∧ p ≤ 50 * (es.length : Int)) ∧ at_ = .int .i64 p ∧ v = .slice A es.length c ∧ es.length + k ≤ 5 ∧ OwnI wr w2.heap.size A c es ∧ DSt w2 g (0 + 100 + 1 + es.length * 2) wr) (fun _ _ i _ => (intOf i).toNat)
  case atStart => exact ⟨x3, 0, _, _, [], b3, rfl, by simp, rfl, rfl, by simpa using b3, I, D3⟩
  case round =>
    clear I D3 b3 hx3
    obtain ⟨k, p, A, c, es, hk, rfl, hp, rfl, rfl, hrk, I, D3⟩ := hrel
    by_cases hlt : 0 < k
    · go_wp2_with fail
      refine (r_pick g _ _ _ D3.rd (by omega)).mono ?_
      rintro e w4 ⟨x4, rfl, hx4, hr, hg4⟩
      replace I := I.pick hg4 D3.lt
      replace D3 := D3.pick hr hg4
      clear hr hg4
      have b4 : x4 ≤ 8 := by omega
      clear hx4
      go_wp2_with fail
      refine (r_pick g _ _ _ D3.rd (by omega)).mono ?_
      rintro e w5 ⟨x5, rfl, hx5, hr, hg5⟩
      replace I := I.pick hg5 D3.lt
      replace D3 := D3.pick hr hg5
      clear hr hg5
      have b5 : x5 ≤ 11 := by omega
      clear hx5
      have hgs := D3.gr.size
      go_wp2_with (at_builtin; refine wpList_push_I (w0 := w2) _ rfl rfl I rfl rfl (by omega) hgs ?_; intro A6 c6 w6 I6 hg6 hpre)
      have D6 := (D3.alloc _).push hpre hg6
      clear hg6 hpre I hgs D3
      go_wp2
      go_roundw
      case rel => exact ⟨k - 1, _, A6, c6, es ++ [_], by omega, by go_num, by simp; omega, rfl, by simp, by simp; omega, I6, D6.more (by simp; omega)⟩
      case measure => simp [intOf]; omega
    · go_wp2
      go_ret2
      exact ⟨_, _, rs, _, _, es, rfl, hl, by omega, own_base (World.ownsRow.kept O D3.gr (.inr (fun e => by have := World.ownsRow.lt O _ e; have := D3.rd.lt; have := D.lt; omega))) hb.size, own_base I (Nat.le_trans hb.size D.gr.size), r_fresh hg hb (gtrans D.gr D3.gr)⟩
end Go.Proofs.Ytdjilkohnhejiaa
