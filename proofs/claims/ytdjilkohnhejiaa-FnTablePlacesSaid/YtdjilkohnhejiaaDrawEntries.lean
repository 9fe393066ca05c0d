/- Drawing the entries of a table. No condition. -/
import Derived.Test.YtdjilkohnhejiaaDrawOpen
import Derived.Test.YtdjilkohnhejiaaPush
import Derived.Test.YtdjilkohnhejiaaTy
import Derived.OwnWalk
namespace Go.Proofs.Ytdjilkohnhejiaa
open Go.RowKit
set_option linter.unusedVariables false

set_option maxHeartbeats 1600000 in
theorem r_entries (g m : Nat) (many : Nat) (N : Nat) (w : World) (h : Rdr w g m) (hm : m ≤ 800000) (hN : N ≤ 1000000) (h1 : 1 ≤ many) (h6 : many ≤ 6) :
    Calls Try.prog 59 #[.pointer (some ⟨g, 0, none⟩), .int .i64 many, .int .i64 N] w fun e w' => ∃ (A : Option Addr) (c : Nat) (rs : List Entry), e = .returned (.slice A rs.length c) ∧ rs.length ≤ 21 ∧ OwnE w' w.heap.size A c rs ∧ DSt w g (m + 100) w' := by
  obtain ⟨i0, hi, hz0, hz1, hz2⟩ := info_parts infoEntry
  have D0 := DSt.begin_ h
  have D := D0.alloc (.cells #[] 59)
  have O : OwnE (w.alloc (.cells #[] 59)) w.heap.size (some ⟨w.heap.size, 0, none⟩) 0 [] := World.ownsRow_made w #[] 0 (Nat.le_refl _) (Nat.zero_le _) rfl
  clear D0 h
  go_enter Try.func59, Try.ntmps59
  go_wp2_with fail
  refine (r_pick g m _ _ D.rd (by omega)).mono ?_
  rintro e w2 ⟨x2, rfl, hx2, hr, hg⟩
  replace O := O.pick hg D.lt
  replace D := D.pick hr hg
  clear hr hg
  have hx22 : x2 ≤ 7 := by omega
  clear hx2
  go_wp2_with fail
  go_loopw [7, 8] (fun v i wr => ∃ (k : Nat) (A : Option Addr) (c : Nat) (rs : List Entry), k ≤ 7 ∧ i = .int .i64 k ∧ v = .slice A rs.length c ∧ rs.length + k ≤ 7 ∧ OwnE wr w.heap.size A c rs ∧ DSt w g (m + 1 + rs.length * 3) wr) (fun _ i _ => (intOf i).toNat)
  case atStart => exact ⟨x2, _, _, [], hx22, rfl, rfl, by simpa using hx22, O, D⟩
  case round =>
    clear O D hx22
    obtain ⟨k, A, c, rs, hk, rfl, rfl, hrk, O, D⟩ := hrel
    by_cases hlt : 0 < k
    · go_wp2_with fail
      refine (r_pick g _ _ _ D.rd (by omega)).mono ?_
      rintro e w3 ⟨x3, rfl, hx3, hr, hg⟩
      replace O := O.pick hg D.lt
      replace D := D.pick hr hg
      clear hr hg
      have hx33 : x3 + 1 ≤ many := by omega
      clear hx3
      go_wp2_with fail
      refine (r_pick g _ _ _ D.rd (by omega)).mono ?_
      rintro e w4 ⟨x4, rfl, hx4, hr, hg⟩
      replace O := O.pick hg D.lt
      replace D := D.pick hr hg
      clear hr hg
      have hx44 : x4 ≤ 6 := by omega
      clear hx4
      go_wp2_with fail
      refine (r_pick g _ _ _ D.rd (by omega)).mono ?_
      rintro e w5 ⟨x5, rfl, hx5, hr, hg⟩
      replace O := O.pick hg D.lt
      replace D := D.pick hr hg
      clear hr hg
      have hgs := D.gr.size
      go_wp2_with (at_builtin; refine wpList_push_entries (w0 := w) ⟨x3, 1 + x4, x5⟩ rfl rfl O rfl rfl (by omega) hgs ?_; intro A6 c6 w6 O6 hg6 hpre)
      replace D := (D.alloc (.cells #[.int .i64 x3, .int .i64 (1 + x4), .int .i64 x5] 59)).push hpre hg6
      clear hg6 hpre O hgs
      go_wp2
      go_roundw
      case rel => exact ⟨k - 1, A6, c6, rs ++ [⟨x3, 1 + x4, x5⟩], by omega, by go_num, by simp, by simp; omega, O6, D.more (by simp; omega)⟩
      case measure => simp [intOf]; omega
    · have hrl : rs.length ≤ 7 := by omega
      replace D : DSt w g (m + 22) _ := D.more (by omega)
      clear hrk hk
      go_wp2_with fail
      refine (r_odd g _ N _ D.rd (by omega) hN).mono ?_
      rintro e w4 ⟨b, rfl, _, hr, hg⟩
      replace O := O.pick hg D.lt
      replace D := D.pick hr hg
      clear hr hg
      cases b
      · go_wp2
        go_ret
        exact ⟨_, _, rs, rfl, by omega, O, D.more (by omega)⟩
      · go_wp2_with fail
        refine (r_pick g _ _ _ D.rd (by omega)).mono ?_
        rintro e w5 ⟨x5, rfl, hx5, hr, hg⟩
        replace O := O.pick hg D.lt
        replace D := D.pick hr hg
        clear hr hg
        have hgs := D.gr.size
        rcases (show x5 = 0 ∨ x5 = 1 ∨ x5 = 2 ∨ x5 = 3 by omega) with rfl | rfl | rfl | rfl
        · go_wp2_with (at_builtin; refine wpList_push_entries (w0 := w) ⟨many, 1, 0⟩ rfl rfl O rfl rfl (by omega) hgs ?_; intro A6 c6 w6 O6 hg6 hpre)
          replace D := (D.alloc _).push hpre hg6
          go_ret
          exact ⟨_, _, rs ++ [⟨many, 1, 0⟩], by simp, by simp; omega, O6, D.more (by omega)⟩
        · go_wp2_with (at_builtin; refine wpList_push_entries (w0 := w) ⟨0, 0, 0⟩ rfl rfl O rfl rfl (by omega) hgs ?_; intro A6 c6 w6 O6 hg6 hpre)
          replace D := (D.alloc _).push hpre hg6
          go_ret
          exact ⟨_, _, rs ++ [⟨0, 0, 0⟩], by simp, by simp; omega, O6, D.more (by omega)⟩
        · go_wp2_with (at_builtin; refine wpList_push_entries (w0 := w) ⟨0, 1, 1001⟩ rfl rfl O rfl rfl (by omega) hgs ?_; intro A6 c6 w6 O6 hg6 hpre)
          replace D := (D.alloc _).push hpre hg6
          go_ret
          exact ⟨_, _, rs ++ [⟨0, 1, 1001⟩], by simp, by simp; omega, O6, D.more (by omega)⟩
        · go_wp2_with (at_make; refine wpList_make_full _ rfl _ _ 52 rfl w.heap.size 59 i0 (.agg #[.int .i64 0, .int .i64 0, .int .i64 0]) 3 Try.underlying52 hi hz0 hz1 .i64 .i64 21 21 21 rfl rfl rfl rfl ?b2 ?b3 hgs ?_)
          case b2 => rw [hz2]; omega
          case b3 => unfold maxLen; omega
          intro w6 O6 hg6
          have D7 : DSt w g _ w6 := D.push (v := .slice none 0 0) (World.ownsRow_nil w5 w.heap.size 59 3) hg6
          have O7 : OwnE w6 w.heap.size (some ⟨w5.heap.size, 0, none⟩) 21 (List.replicate 21 ⟨0, 0, 0⟩) := by
            have e : (madeCells #[.int .i64 0, .int .i64 0, .int .i64 0] 63).toList = (List.replicate 21 (⟨0, 0, 0⟩ : Entry)).flatMap Entry.cells := by kernel_rfl
            rw [e] at O6; exact O6
          go_wp2
          go_ret
          exact ⟨_, _, List.replicate 21 ⟨0, 0, 0⟩, by simp, by simp, O7, D7.more (by omega)⟩

end Go.Proofs.Ytdjilkohnhejiaa
