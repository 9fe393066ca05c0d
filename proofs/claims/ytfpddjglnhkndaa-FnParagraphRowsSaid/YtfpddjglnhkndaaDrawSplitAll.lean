/- Drawing rows and heights. No condition. -/
import Derived.Test.YtfpddjglnhkndaaDrawRows2
import Derived.Deep.DeepCutAuto
namespace Go.Proofs.Ytfpddjglnhkndaa
open Go.RowKit
set_option linter.unusedVariables false

/-- The reader behind a write into a row of the call's own. -/
theorem rdr_own {w w' : World} {g m B e sz n : Nat} {v : Value} {xs : List Value} (h : Rdr w g m) (ho : w.ownsRow B e sz v n xs) (hB : g < B) (hg : w.grownBy w' v.ownBlock) : Rdr w' g m :=
  h.keep hg (fun k hk => Nat.lt_of_lt_of_le hB (ho.lt k hk).1)
theorem ne_own {w : World} {g B e sz n : Nat} {v : Value} {xs : List Value} (ho : w.ownsRow B e sz v n xs) (hB : g < B) : v.ownBlock = none ∨ v.ownBlock ≠ some g :=
  .inr (fun e => by have := (ho.lt _ e).1; omega)

set_option maxHeartbeats 1600000 in
theorem c_drawSplitAll (A : Option Addr) (n c : Nat) (xs : List Int) (w : World) (h : CodeAt w A n c xs) :
    Calls Try.prog 44 #[.slice A n c] w fun e w' => ∃ (A : Option Addr) (c : Nat) (rs : List Row) (A2 : Option Addr) (c2 : Nat) (hs : List Int), e = .returned (.tuple #[.slice A rs.length c, .slice A2 hs.length c2]) ∧ rs.length ≤ 31 ∧ hs.length ≤ 31 ∧ OwnR w' w.heap.size A c rs ∧ OwnI w' w.heap.size A2 c2 hs ∧ Below w.heap.size w w' := by
  obtain ⟨i0, hi, hz0, hz1, hz2⟩ := info_parts infoInt
  go_enter Try.func44, Try.ntmps44
  go_wp2_with fail
  refine (r_open A n c xs _ h).mono ?_
  rintro e w1 ⟨g, rfl, hg, hr, hb⟩
  have hgl1 := hr.lt
  go_wp2_with fail
  refine (r_rows' g _ 9 _ hr (by omega) (by omega)).mono ?_
  rintro e w2 ⟨A2, c2, rs, rfl, hl, ho, hr2, hg2⟩
  have hB := r_fresh hg hb hg2
  have hR : w2.ownsRow w.heap.size 25 4 (.slice A2 rs.length c2) rs.length (rs.flatMap Row.cells) := own_base ho hb.size
  have hRg : (Value.slice A2 rs.length c2).ownBlock = none ∨ (Value.slice A2 rs.length c2).ownBlock ≠ some g := ne_own ho (by omega)
  have hgl := hr2.lt
  have hgs := hg2.size
  go_wp2_with fail
  have hI0 : OwnI (w2.alloc (.cells #[] 3)) w2.heap.size (some ⟨w2.heap.size, 0, none⟩) 0 [] := World.ownsRow_made w2 #[] 0 (Nat.le_refl _) (Nat.zero_le _) rfl
  refine (r_pick g _ _ _ (hr2.alloc _) (by omega)).mono ?_
  rintro e w3 ⟨x3, rfl, hx3, hr3, hg3⟩
  have hI3 : OwnI w3 w2.heap.size _ _ _ := World.ownsRow.kept hI0 hg3 (ne_own hI0 hgl)
  have hG3 := gtrans (galloc (grefl w2 (some g)) _) hg3
  have hx34 : x3 ≤ 4 := by omega
  clear hI0 hr2 hg3 hx3
  go_wp2
  go_loopw [6, 7] (fun v i wr => ∃ (k : Nat) (AI : Option Addr) (cI : Nat) (hs : List Int), k ≤ 4 ∧ i = .int .i64 k ∧ hs.length + k ≤ 4 ∧ v = .slice AI hs.length cI ∧ OwnI wr w2.heap.size AI cI hs ∧
      Rdr wr g (501 + hs.length) ∧ w2.grownBy wr (some g)) (fun _ i _ => (intOf i).toNat)
  case atStart => exact ⟨x3, _, _, [], hx34, rfl, by simpa using hx34, rfl, hI3, hr3, hG3⟩
  case round =>
    clear hI3 hr3 hG3
    obtain ⟨k, AI, cI, hs, hk, rfl, hsk, rfl, hI, hr, hG⟩ := hrel
    by_cases hlt : 0 < k
    · go_wp2_with fail
      refine (r_pick g _ _ _ hr (by omega)).mono ?_
      rintro e w4 ⟨x4, rfl, hx4, hr4, hg4⟩
      have hI4 : OwnI w4 w2.heap.size _ _ _ := World.ownsRow.kept hI hg4 (ne_own hI hgl)
      have hG4 := gtrans hG hg4
      clear hI hr hg4 hG
      go_wp2_with (at_builtin; refine wpList_append_own _ rfl _ _ 41 rfl w2.heap.size 3 i0 _ 1 8 Try.underlying41 hi hz0 hz1 hz2 rfl (by decide) _ _ _ rfl (World.ownsRow.alloc hI4 _) ⟨w4.heap.size, 0, none⟩ 1 1 [.int .i64 x4] rfl rfl ?c1 ?c2 ?c3 ?c4 ?c5 ?_)
      case c1 => exact one_new _ _ _
      case c2 => exact one_one _
      case c3 => unfold maxLen; omega
      case c4 => omega
      case c5 => have := hG4.size; simp; omega
      intro v5 w5 hI5 hg5 _
      have hr5 := rdr_own (hr4.alloc _) (World.ownsRow.alloc hI4 _) hgl hg5
      have hG5 := gown' (galloc hG4 _) (World.ownsRow.alloc hI4 _) hg5
      have hI6 : w5.ownsRow w2.heap.size 3 1 v5 (hs.length + 1) ((hs ++ [(x4 : Int)]).map (Value.int .i64)) := by rw [List.map_append]; exact hI5
      obtain ⟨A6, c6, rfl, _, hI7⟩ := OwnI.of hI6
      clear hI4 hr4 hG4 hI5 hg5 hI6
      go_wp2
      go_roundw
      case rel => exact ⟨k - 1, A6, c6, hs ++ [(x4 : Int)], by omega, by go_num, by simp; omega, by simp, hI7, hr5.mono (by simp; omega), hG5⟩
      case measure => simp [intOf]; omega
    · go_wp2_with fail
      refine (r_odd g _ 9 _ hr (by omega) (by omega)).mono ?_
      rintro e w4 ⟨b4, rfl, _, hr4, hg4⟩
      have hI4 : OwnI w4 w2.heap.size _ _ _ := World.ownsRow.kept hI hg4 (ne_own hI hgl)
      have hG4 := gtrans hG hg4
      clear hI hr hg4 hG
      go_upto_if 25 with fail
      go_cut [6] (fun v wx => ∃ (AI : Option Addr) (cI : Nat) (hs : List Int), hs.length ≤ 5 ∧ v = .slice AI hs.length cI ∧ OwnI wx w2.heap.size AI cI hs ∧ Rdr wx g 510 ∧ w2.grownBy wx (some g))
      case first =>
        cases b4
        · go_wp2
          go_meet
          exact ⟨_, _, hs, by omega, rfl, hI4, hr4.mono (by omega), hG4⟩
        · go_wp2_with fail
          refine (r_pick g _ _ _ (hr4.alloc _) (by omega)).mono ?_
          rintro e w5 ⟨x5, rfl, hx5, hr5, hg5⟩
          have hI5 : OwnI w5 w2.heap.size _ _ _ := World.ownsRow.kept (World.ownsRow.alloc hI4 (.cells #[.int .i64 (-1), .int .i64 1000001] 3)) hg5 (ne_own hI4 hgl)
          have hG5 := gtrans (galloc hG4 (.cells #[.int .i64 (-1), .int .i64 1000001] 3)) hg5
          have hb5 := (Blk.new w4 3 #[.int .i64 (-1), .int .i64 1000001]).grown hg5 (by have := hG4.size; simp; omega)
          clear hI4 hr4 hG4 hg5
          obtain ⟨y, hy⟩ : ∃ y : Int, w5.cell? ⟨w4.heap.size, x5, none⟩ = some (.int .i64 y) := by
            rcases (show x5 = 0 ∨ x5 = 1 by omega) with rfl | rfl
            · exact ⟨-1, hb5.cell 0⟩
            · exact ⟨1000001, hb5.cell 1⟩
          have hx52 : (x5 : Int) < 2 := by omega
          go_wp2_with (at_builtin; refine wpList_append_own _ rfl _ _ 41 rfl w2.heap.size 3 i0 _ 1 8 Try.underlying41 hi hz0 hz1 hz2 rfl (by decide) _ _ _ rfl (World.ownsRow.alloc hI5 _) ⟨w5.heap.size, 0, none⟩ 1 1 [.int .i64 y] rfl rfl ?d1 ?d2 ?d3 ?d4 ?d5 ?_)
          case d1 => exact one_new _ _ _
          case d2 => exact one_one _
          case d3 => unfold maxLen; omega
          case d4 => omega
          case d5 => have := hG5.size; simp; omega
          intro v6 w6 hI6 hg6 _
          have hr6 := rdr_own (hr5.alloc _) (World.ownsRow.alloc hI5 _) hgl hg6
          have hG6 := gown' (galloc hG5 _) (World.ownsRow.alloc hI5 _) hg6
          have hI7 : w6.ownsRow w2.heap.size 3 1 v6 (hs.length + 1) ((hs ++ [(y : Int)]).map (Value.int .i64)) := by rw [List.map_append]; exact hI6
          obtain ⟨A7, c7, rfl, _, hI8⟩ := OwnI.of hI7
          clear hI5 hr5 hG5 hI6 hg6 hI7 hb5 hy
          go_wp2
          go_meet
          exact ⟨A7, c7, hs ++ [(y : Int)], by simp; omega, by simp, hI8, hr6.mono (by omega), hG6⟩
      case rest =>
        obtain ⟨AI, cI, hs, hsl, rfl, hI, hr, hG⟩ := hcut
        clear hI4 hr4 hG4
        go_wp2_with fail
        refine (r_odd g _ 24 _ hr (by omega) (by omega)).mono ?_
        rintro e w7 ⟨b7, rfl, _, hr7, hg7⟩
        have hI7 : OwnI w7 w2.heap.size _ _ _ := World.ownsRow.kept hI hg7 (ne_own hI hgl)
        have hG7 := gtrans hG hg7
        clear hI hr hg7 hG
        cases b7
        · go_wp2
          go_ret2
          exact ⟨_, _, rs, _, _, hs, rfl, hl, by omega, hR.kept hG7 hRg, own_base hI7 (Nat.le_trans hb.size hgs), bgrown hB hg hG7 hB.size⟩
        · go_wp2_with (at_make; refine wpList_make_full _ rfl _ _ 41 rfl w2.heap.size 3 i0 (.int .i64 0) 1 Try.underlying41 hi hz0 hz1 .i64 .i64 31 31 31 rfl rfl rfl rfl (by rw [hz2]; omega) (by unfold maxLen; omega) hG7.size ?_)
          intro w8 hI8 hg8
          have hG8 : w2.grownBy w8 (some g) := gown hG7 hg8 (by simp)
          have hI9 : w8.ownsRow w2.heap.size 3 1 (.slice (some ⟨w7.heap.size, 0, none⟩) 31 31) 31 ((List.replicate 31 (0 : Int)).map (Value.int .i64)) := by
            have h8 := hI8; rw [toList_madeCells_one] at h8; rw [List.map_replicate]; exact h8
          clear hI8 hg8 hI7
          go_wp2
          go_ret2
          exact ⟨_, _, rs, _, _, List.replicate 31 (0 : Int), rfl, hl, by simp, hR.kept hG8 hRg, own_base hI9 (Nat.le_trans hb.size hgs), bgrown hB hg hG8 hB.size⟩
end Go.Proofs.Ytfpddjglnhkndaa
