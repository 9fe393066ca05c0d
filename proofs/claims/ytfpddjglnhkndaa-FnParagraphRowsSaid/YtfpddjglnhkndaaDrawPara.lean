/- Drawing numbers of lines and a height. No condition. -/
import Derived.Test.YtfpddjglnhkndaaDrawSplitAll
import Derived.Test.YtfpddjglnhkndaaDrawSplit
namespace Go.Proofs.Ytfpddjglnhkndaa
open Go.RowKit
set_option linter.unusedVariables false

theorem tabP7 (x : Nat) (hx : x < 7) : ∃ t : Nat, ([.int .i64 0, .int .i64 0, .int .i64 1, .int .i64 1, .int .i64 2, .int .i64 3, .int .i64 4] : List Value)[x]? = some (.int .i64 t) ∧ t < 5 := by
  rcases (show x = 0 ∨ x = 1 ∨ x = 2 ∨ x = 3 ∨ x = 4 ∨ x = 5 ∨ x = 6 by omega) with rfl | rfl | rfl | rfl | rfl | rfl | rfl
  · exact ⟨0, rfl, by omega⟩
  · exact ⟨0, rfl, by omega⟩
  · exact ⟨1, rfl, by omega⟩
  · exact ⟨1, rfl, by omega⟩
  · exact ⟨2, rfl, by omega⟩
  · exact ⟨3, rfl, by omega⟩
  · exact ⟨4, rfl, by omega⟩
theorem tabP5 (t x : Nat) (ht : t < 5) (hx : x < 9) : ∃ y : Int, ([.int .i64 (1), .int .i64 (1 + (x : Int)), .int .i64 (1000), .int .i64 (0), .int .i64 (1001)] : List Value)[t]? = some (.int .i64 y) ∧ 0 ≤ y ∧ y ≤ 1001 := by
  rcases (show t = 0 ∨ t = 1 ∨ t = 2 ∨ t = 3 ∨ t = 4 by omega) with rfl | rfl | rfl | rfl | rfl
  · exact ⟨1, rfl, by omega, by omega⟩
  · exact ⟨1 + (x : Int), rfl, by omega, by omega⟩
  · exact ⟨1000, rfl, by omega, by omega⟩
  · exact ⟨0, rfl, by omega, by omega⟩
  · exact ⟨1001, rfl, by omega, by omega⟩

set_option maxHeartbeats 6400000 in
theorem c_drawParagraphRows (A : Option Addr) (n c : Nat) (xs : List Int) (w : World) (h : CodeAt w A n c xs) :
    Calls Try.prog 36 #[.slice A n c] w fun e w' => ∃ (A : Option Addr) (c : Nat) (hs : List Int) (y : Int), e = .returned (.tuple #[.slice A hs.length c, .int .i64 y]) ∧ hs.length ≤ 31 ∧ OwnI w' w.heap.size A c hs ∧ Below w.heap.size w w' := by
  obtain ⟨i0, hi, hz0, hz1, hz2⟩ := info_parts infoInt
  go_enter Try.func36, Try.ntmps36
  go_wp2_with fail
  refine (r_open A n c xs _ h).mono ?_
  rintro e w2 ⟨g, rfl, hg, hr2, hb⟩
  have hgl := hr2.lt
  go_wp2_with fail
  have hI0 : OwnI (w2.alloc (.cells #[] 3)) w2.heap.size (some ⟨w2.heap.size, 0, none⟩) 0 [] := World.ownsRow_made w2 #[] 0 (Nat.le_refl _) (Nat.zero_le _) rfl
  refine (r_pick g _ _ _ (hr2.alloc _) (by omega)).mono ?_
  rintro e w3 ⟨x3, rfl, hx3, hr3, hg3⟩
  have hI3 : OwnI w3 w2.heap.size _ _ _ := World.ownsRow.kept hI0 hg3 (ne_own hI0 hgl)
  have hG3 := gtrans (galloc (grefl w2 (some g)) _) hg3
  have hx35 : x3 ≤ 5 := by omega
  clear hI0 hr2 hg3 hx3
  go_wp2
  go_loopw [5, 6] (fun v i wr => ∃ (k : Nat) (AI : Option Addr) (cI : Nat) (hs : List Int), k ≤ 5 ∧ i = .int .i64 k ∧ hs.length + k ≤ 5 ∧ v = .slice AI hs.length cI ∧ OwnI wr w2.heap.size AI cI hs ∧
      Rdr wr g (1 + hs.length) ∧ w2.grownBy wr (some g)) (fun _ i _ => (intOf i).toNat)
  case atStart => exact ⟨x3, _, _, [], hx35, rfl, by simpa using hx35, rfl, hI3, hr3, hG3⟩
  case round =>
    clear hI3 hr3 hG3
    obtain ⟨k, AI, cI, hs, hk, rfl, hsk, rfl, hI, hr, hG⟩ := hrel
    by_cases hlt : 0 < k
    · go_wp2_with fail
      refine (r_pick g _ _ _ hr (by omega)).mono ?_
      rintro e w4 ⟨x4, rfl, hx4, hr4, hg4⟩
      have hI4 : OwnI w4 w2.heap.size _ _ _ := World.ownsRow.kept hI hg4 (ne_own hI hgl)
      have hG4 := gtrans hG hg4
      clear hI hr hg4 hG
      go_wp2_with (at_builtin; refine wpList_append_own _ rfl _ _ 41 rfl w2.heap.size 3 i0 _ 1 8 Try.underlying41 hi hz0 hz1 hz2 rfl (by decide) _ _ _ rfl (World.ownsRow.alloc hI4 _) ⟨w4.heap.size, 0, none⟩ 1 1 [.int .i64 (1 + x4)] rfl rfl ?c1 ?c2 ?c3 ?c4 ?c5 ?_)
      case c1 => exact one_new _ _ _
      case c2 => exact one_one _
      case c3 => unfold maxLen; omega
      case c4 => omega
      case c5 => have := hG4.size; simp; omega
      intro v5 w5 hI5 hg5 _
      have hr5 := rdr_own (hr4.alloc _) (World.ownsRow.alloc hI4 _) hgl hg5
      have hG5 := gown' (galloc hG4 _) (World.ownsRow.alloc hI4 _) hg5
      have hI6 : w5.ownsRow w2.heap.size 3 1 v5 (hs.length + 1) ((hs ++ [(1 + x4 : Int)]).map (Value.int .i64)) := by rw [List.map_append]; exact hI5
      obtain ⟨A6, c6, rfl, _, hI7⟩ := OwnI.of hI6
      clear hI4 hr4 hG4 hI5 hg5 hI6
      go_wp2
      go_roundw
      case rel => exact ⟨k - 1, A6, c6, hs ++ [(1 + x4 : Int)], by omega, by go_num, by simp; omega, by simp, hI7, hr5.mono (by simp; omega), hG5⟩
      case measure => simp [intOf]; omega
    · go_wp2_with fail
      refine (r_odd g _ 9 _ hr (by omega) (by omega)).mono ?_
      rintro e w4 ⟨b4, rfl, _, hr4, hg4⟩
      have hI4 : OwnI w4 w2.heap.size _ _ _ := World.ownsRow.kept hI hg4 (ne_own hI hgl)
      have hG4 := gtrans hG hg4
      clear hI hr hg4 hG
      go_upto_if 23 with fail
      go_cut [5] (fun v wx => ∃ (AI : Option Addr) (cI : Nat) (hs : List Int), hs.length ≤ 6 ∧ v = .slice AI hs.length cI ∧ OwnI wx w2.heap.size AI cI hs ∧ Rdr wx g 10 ∧ w2.grownBy wx (some g))
      case first =>
        cases b4
        · go_wp2
          go_meet
          exact ⟨_, _, hs, by omega, rfl, hI4, hr4.mono (by omega), hG4⟩
        · go_wp2_with fail
          refine (r_pick g _ _ _ (hr4.alloc _) (by omega)).mono ?_
          rintro e w5 ⟨x5, rfl, hx5, hr5, hg5⟩
          have hI5 : OwnI w5 w2.heap.size _ _ _ := World.ownsRow.kept (World.ownsRow.alloc hI4 (.cells #[.int .i64 0, .int .i64 (-1), .int .i64 30, .int .i64 31] 3)) hg5 (ne_own hI4 hgl)
          have hG5 := gtrans (galloc hG4 (.cells #[.int .i64 0, .int .i64 (-1), .int .i64 30, .int .i64 31] 3)) hg5
          have hb5 := (Blk.new w4 3 #[.int .i64 0, .int .i64 (-1), .int .i64 30, .int .i64 31]).grown hg5 (by have := hG4.size; simp; omega)
          clear hI4 hr4 hG4 hg5
          obtain ⟨y, hy⟩ : ∃ y : Int, w5.cell? ⟨w4.heap.size, x5, none⟩ = some (.int .i64 y) := by
            rcases (show x5 = 0 ∨ x5 = 1 ∨ x5 = 2 ∨ x5 = 3 by omega) with rfl | rfl | rfl | rfl
            · exact ⟨0, hb5.cell 0⟩
            · exact ⟨-1, hb5.cell 1⟩
            · exact ⟨30, hb5.cell 2⟩
            · exact ⟨31, hb5.cell 3⟩
          have hx52 : (x5 : Int) < 4 := by omega
          go_wp2_with (at_builtin; refine wpList_append_own _ rfl _ _ 41 rfl w2.heap.size 3 i0 _ 1 8 Try.underlying41 hi hz0 hz1 hz2 rfl (by decide) _ _ _ rfl (World.ownsRow.alloc hI5 _) ⟨w5.heap.size, 0, none⟩ 1 1 [.int .i64 y] rfl rfl ?d1 ?d2 ?d3 ?d4 ?d5 ?_)
          case d1 => exact one_new _ _ _
          case d2 => exact one_one _
          case d3 => unfold maxLen; omega
          case d4 => omega
          case d5 => have := hG5.size; simp; omega
          intro v6 w6 hI6 hg6 _
          have hr6 := rdr_own (hr5.alloc _) (World.ownsRow.alloc hI5 _) hgl hg6
          have hG6 := gown' (galloc hG5 _) (World.ownsRow.alloc hI5 _) hg6
          have hI7 : w6.ownsRow w2.heap.size 3 1 v6 (hs.length + 1) ((hs ++ [(y : Int)]).map (Value.int .i64)) := by rw [List.map_append]; exact hI6
          obtain ⟨A7, c7, rfl, _, hI8⟩ := OwnI.of hI7
          clear hI5 hr5 hG5 hI6 hg6 hI7 hb5 hy
          go_wp2
          go_meet
          exact ⟨A7, c7, hs ++ [(y : Int)], by simp; omega, by simp, hI8, hr6.mono (by omega), hG6⟩
      case rest =>
        obtain ⟨AI, cI, hs, hsl, rfl, hI, hr, hG⟩ := hcut
        have hgw := hr.lt
        clear hI4 hr4 hG4
        go_wp2
        go_region_with (first
          | (go_at_call_of 56 (Value.int IntKind.i64 9); refine (r_pickR g (10) _ _ ?_ (by omega)).mono ?_; (first | exact hr.drew | exact hr.drew.alloc _); rintro e w3 ⟨x1, rfl, hx1, hr3, hg3, hs3, ht3, hu3⟩; have hw1 : IntKind.i64.wrap (1 + (x1 : Int)) = 1 + (x1 : Int) := (IntWalk.i64_in _ (by omega)); (first | (have hz23 : wc.heap.size < w3.heap.size := (by (try simp at ht3); omega); have hz32 : wc.heap.size ≠ w3.heap.size := (by omega)) | skip))
          | (go_at_call_of 56 (Value.int IntKind.i64 7); refine (r_pickR g (10 + 1) _ _ ?_ (by omega)).mono ?_; (first | exact hr3 | exact hr3.alloc _ | exact (hr3.alloc _).alloc _); rintro e w4 ⟨x2, rfl, hx2, hr4, hg4, hs4, ht4, hu4⟩; obtain ⟨t, ht, htl⟩ := tabP7 x2 (by omega); obtain ⟨y, hy, hyl, hyh⟩ := tabP5 t x1 htl (by omega); obtain ⟨_, hyg⟩ := List.getElem?_eq_some_iff.1 hy; have hx8 : (x2 : Int) < 7 := (by omega); (first | (have hz34 : w3.heap.size < w4.heap.size := (by (try simp at ht4); (try simp at ht3); omega); have hz43 : w3.heap.size ≠ w4.heap.size := (by omega)) | skip); (first | (have hz24 : wc.heap.size < w4.heap.size := (by (try simp at ht4); (try simp at ht3); omega); have hz42 : wc.heap.size ≠ w4.heap.size := (by omega)) | skip); have ht5 : (t : Int) < 5 := (by omega); have ht50 : (0 : Int) ≤ (t : Int) := (by omega)))
      
        all_goals
          go_wp2
          go_ret2
          refine ⟨AI, cI, hs, y, rfl, by omega, own_base (World.ownsRow.kept hI (row := some g) ?_ (ne_own hI hgl)) hb.size, bgrown hb hg (gtrans hG ?_) hb.size⟩
          all_goals
            repeat (first | exact grefl _ _ | refine gtrans ?_ hg4 | refine gtrans ?_ hg3 | refine gdrew ?_ | refine galloc ?_ _)
end Go.Proofs.Ytfpddjglnhkndaa
