/- Drawing headings. No condition. -/
import Derived.Test.YtdjilkohnhejiaaDrawOpen
import Derived.Test.YtdjilkohnhejiaaPush
import Derived.Test.YtdjilkohnhejiaaTy
import Derived.OwnWalk
namespace Go.Proofs.Ytdjilkohnhejiaa
open Go.RowKit
set_option linter.unusedVariables false

theorem heads_one (rs : List Heading) : ∀ u ∈ rs.flatMap Heading.cells, u.oneCell' = true := by
  intro u hu
  rw [List.mem_flatMap] at hu
  obtain ⟨r, _, hr⟩ := hu
  exact one_heads r u hr
set_option maxHeartbeats 1600000 in
theorem r_heads (g m : Nat) (N : Nat) (w : World) (h : Rdr w g m) (hm : m ≤ 800000) (hN : N ≤ 1000000) :
    Calls Try.prog 53 #[.pointer (some ⟨g, 0, none⟩), .int .i64 N] w fun e w' => ∃ (A : Option Addr) (c : Nat) (rs : List Heading), e = .returned (.slice A rs.length c) ∧ rs.length ≤ 21 ∧ OwnH w' w.heap.size A c rs ∧ DSt w g (m + 100) w' := by
  obtain ⟨i0, hi, hz0, hz1, hz2⟩ := info_parts infoHeading
  have D0 := DSt.begin_ h
  have D := D0.alloc (.cells #[] 32)
  have O : OwnH (w.alloc (.cells #[] 32)) w.heap.size (some ⟨w.heap.size, 0, none⟩) 0 [] := World.ownsRow_made w #[] 0 (Nat.le_refl _) (Nat.zero_le _) rfl
  clear D0 h
  go_enter Try.func53, Try.ntmps53
  go_wp2_with fail
  refine (r_pick g m _ _ D.rd (by omega)).mono ?_
  rintro e w1 ⟨x1, rfl, hx1, hr, hg⟩
  replace O := O.pick hg D.lt
  replace D := D.pick hr hg
  clear hr hg
  go_wp2_with fail
  refine (r_pick g _ _ _ D.rd (by omega)).mono ?_
  rintro e w2 ⟨x2, rfl, hx2, hr, hg⟩
  replace O := O.pick hg D.lt
  replace D := D.pick hr hg
  clear hr hg
  have hx11 : x1 ≤ 29 := by omega
  have hx22 : x2 ≤ 5 := by omega
  clear hx1 hx2
  go_wp2_with fail
  go_loopw [5, 6, 7] (fun v at_ i wr => ∃ (k p : Nat) (A : Option Addr) (c : Nat) (rs : List Heading), k ≤ 5 ∧ i = .int .i64 k ∧ p ≤ 29 ∧ at_ = .int .i64 p ∧ v = .slice A rs.length c ∧ rs.length + k ≤ 5 ∧ OwnH wr w.heap.size A c rs ∧ DSt w g (m + 2 + rs.length * 2) wr) (fun _ _ i _ => (intOf i).toNat)
  case atStart => exact ⟨x2, x1, _, _, [], hx22, rfl, hx11, rfl, rfl, by simpa using hx22, O, D⟩
  case round =>
    clear O D hx11 hx22
    obtain ⟨k, p, A, c, rs, hk, rfl, hp, rfl, rfl, hrk, O, D⟩ := hrel
    by_cases hlt : 0 < k
    · go_wp2_with fail
      refine (r_pick g _ _ _ D.rd (by omega)).mono ?_
      rintro e w3 ⟨x3, rfl, hx3, hr, hg⟩
      replace O := O.pick hg D.lt
      replace D := D.pick hr hg
      clear hr hg
      have hgs := D.gr.size
      go_wp2_with (at_builtin; refine wpList_push_heads (w0 := w) ⟨p, 1 + x3⟩ rfl rfl O rfl rfl (by omega) hgs ?_; intro A4 c4 w4 O4 hg4 hpre)
      replace D := (D.alloc (.cells #[.int .i64 p, .int .i64 (1 + x3)] 32)).push hpre hg4
      clear hg4 hpre O hgs
      go_wp2_with fail
      refine (r_pick g _ _ _ D.rd (by omega)).mono ?_
      rintro e w5 ⟨x5, rfl, hx5, hr, hg⟩
      replace O4 := O4.pick hg D.lt
      replace D := D.pick hr hg
      clear hr hg
      by_cases hmin : p + x5 ≤ 29
      all_goals
        go_wp2
        go_roundw
        case rel => first
          | exact ⟨k - 1, p + x5, A4, c4, rs ++ [⟨p, 1 + x3⟩], by omega, by go_num, by omega, by go_num, by simp, by simp; omega, O4, D.more (by simp; omega)⟩
          | exact ⟨k - 1, 29, A4, c4, rs ++ [⟨p, 1 + x3⟩], by omega, by go_num, by omega, by go_num, by simp, by simp; omega, O4, D.more (by simp; omega)⟩
        case measure => simp [intOf]; omega
    · have hrl : rs.length ≤ 5 := by omega
      replace D : DSt w g (m + 12) _ := D.more (by omega)
      clear hrk hk hp
      go_wp2_with fail
      refine (r_odd g _ N _ D.rd (by omega) hN).mono ?_
      rintro e w4 ⟨b, rfl, _, hr, hg⟩
      replace O := O.pick hg D.lt
      replace D := D.pick hr hg
      clear hr hg
      cases b
      · go_wp2
        go_ret
        exact ⟨_, _, rs, rfl, by omega, O, D.more (by omega)⟩
      · go_wp2_with fail
        refine (r_pick g _ _ _ D.rd (by omega)).mono ?_
        rintro e w5 ⟨x5, rfl, hx5, hr, hg⟩
        replace O := O.pick hg D.lt
        replace D := D.pick hr hg
        clear hr hg
        have hgs := D.gr.size
        rcases (show x5 = 0 ∨ x5 = 1 ∨ x5 = 2 ∨ x5 = 3 by omega) with rfl | rfl | rfl | rfl
        · go_wp2_with (at_builtin; refine wpList_push_heads (w0 := w) ⟨30, 1⟩ rfl rfl O rfl rfl (by omega) hgs ?_; intro A6 c6 w6 O6 hg6 hpre)
          replace D := (D.alloc (.cells #[.int .i64 30, .int .i64 1] 32)).push hpre hg6
          go_ret
          exact ⟨_, _, rs ++ [⟨30, 1⟩], by simp, by simp; omega, O6, D.more (by omega)⟩
        · have O7 : OwnH _ w.heap.size A c rs := World.ownsRow.alloc O (.cells #[.int .i64 0, .int .i64 1001] 3)
          have D7 := D.alloc (.cells #[.int .i64 0, .int .i64 1001] 3)
          have hB := Blk.new w5 3 #[.int .i64 0, .int .i64 1001]
          clear O
          go_wp2_with fail
          refine (r_pick g _ _ _ D7.rd (by omega)).mono ?_
          rintro e w7 ⟨x7, rfl, hx7, hr, hg⟩
          replace O7 := O7.pick hg D7.lt
          have D8 := D7.pick hr hg
          have hglt := D.rd.lt
          replace hB := hB.grown hg (by intro e; injection e with e; omega)
          clear hr hg D D7
          have hgs := D8.gr.size
          have hx72 : (x7 : Int) < 2 := by omega
          obtain ⟨y, hy⟩ : ∃ y : Int, w7.cell? ⟨w5.heap.size, x7, none⟩ = some (.int .i64 y) := by
            rcases (show x7 = 0 ∨ x7 = 1 by omega) with rfl | rfl
            · exact ⟨0, hB.cell 0⟩
            · exact ⟨1001, hB.cell 1⟩
          clear hB
          go_wp2_with (at_builtin; refine wpList_push_heads (w0 := w) ⟨29, y⟩ rfl rfl O7 rfl rfl (by omega) hgs ?_; intro A6 c6 w6 O6 hg6 hpre)
          have D9 := (D8.alloc (.cells #[.int .i64 29, .int .i64 y] 32)).push hpre hg6
          go_ret
          exact ⟨_, _, rs ++ [⟨29, y⟩], by simp, by simp; omega, O6, D9.more (by omega)⟩
        · have D7 := D.alloc (.cells #[.int .i64 29, .int .i64 1] 32)
          have O7 : OwnH (w5.alloc (.cells #[.int .i64 29, .int .i64 1] 32)) w.heap.size (some ⟨w5.heap.size, 0, none⟩) 1 [⟨29, 1⟩] := World.ownsRow_lit (size := 2) w5 #[.int .i64 29, .int .i64 1] 1 hgs (by unfold maxLen; omega) rfl
          go_wp2_with (at_builtin; refine wpList_append_rd _ (by rfl) (.tmp 56) (.tmp 57) 25 rfl w.heap.size 32 i0 _ 2 16 Try.underlying25 hi hz0 hz1 hz2 rfl (by decide) _ 1 _ rfl O7 A rs.length c (rs.flatMap Heading.cells) rfl ((O.at_.next (bof w5 (.cells #[.int .i64 29, .int .i64 1] 32))).1) (heads_one rs) (by unfold maxLen; omega) (by omega) (by simp; omega) ?_; intro v6 w6 O6 hg6)
          have D8 := D7.push O7 hg6
          have O9 : w6.ownsRow w.heap.size 32 2 v6 ((⟨29, 1⟩ : Heading) :: rs).length (((⟨29, 1⟩ : Heading) :: rs).flatMap Heading.cells) := by
            have e : ((⟨29, 1⟩ : Heading) :: rs).length = 1 + rs.length := by simp; omega
            rw [e]; exact O6
          obtain ⟨A9, c9, rfl, O10⟩ := OwnH.of O9
          go_wp2
          go_ret
          exact ⟨A9, c9, _, rfl, by simp; omega, O10, D8.more (by omega)⟩
        · go_wp2_with (at_make; refine wpList_make_full _ rfl _ _ 25 rfl w.heap.size 32 i0 (.agg #[.int .i64 0, .int .i64 0]) 2 Try.underlying25 hi hz0 hz1 .i64 .i64 21 21 21 rfl rfl rfl rfl ?b2 ?b3 hgs ?_)
          case b2 => rw [hz2]; omega
          case b3 => unfold maxLen; omega
          intro w6 O6 hg6
          have D7 : DSt w g _ w6 := D.push (v := .slice none 0 0) (World.ownsRow_nil w5 w.heap.size 32 2) hg6
          have O7 : OwnH w6 w.heap.size (some ⟨w5.heap.size, 0, none⟩) 21 (List.replicate 21 ⟨0, 0⟩) := by
            have e : (madeCells #[.int .i64 0, .int .i64 0] 42).toList = (List.replicate 21 (⟨0, 0⟩ : Heading)).flatMap Heading.cells := by kernel_rfl
            rw [e] at O6; exact O6
          go_wp2
          go_ret
          exact ⟨_, _, List.replicate 21 ⟨0, 0⟩, by simp, by simp, O7, D7.more (by omega)⟩
end Go.Proofs.Ytdjilkohnhejiaa
