/- Drawing entries, a number of columns, a gap. No condition. -/
import Derived.Test.YtdjilkohnhejiaaDrawEntries
namespace Go.Proofs.Ytdjilkohnhejiaa
open Go.RowKit
set_option linter.unusedVariables false

theorem r_entries' (g m : Nat) (many : Int) (N : Nat) (w : World) (h : Rdr w g m) (hm : m ≤ 800000) (hN : N ≤ 1000000) (h1 : 1 ≤ many) (h6 : many ≤ 6) :
    Calls Try.prog 59 #[.pointer (some ⟨g, 0, none⟩), .int .i64 many, .int .i64 N] w fun e w' => ∃ (A : Option Addr) (c : Nat) (rs : List Entry), e = .returned (.slice A rs.length c) ∧ rs.length ≤ 21 ∧ OwnE w' w.heap.size A c rs ∧ DSt w g (m + 100) w' := by
  obtain ⟨M, rfl⟩ := Int.eq_ofNat_of_zero_le (show 0 ≤ many by omega)
  exact r_entries g m M N w h hm hN (by omega) (by omega)

set_option maxHeartbeats 400000 in
theorem c_drawTableWidths (A : Option Addr) (n c : Nat) (xs : List Int) (w : World) (h : CodeAt w A n c xs) :
    Calls Try.prog 44 #[.slice A n c] w fun e w' => ∃ (A : Option Addr) (c : Nat) (rs : List Entry) (m : Int), e = .returned (.tuple #[.slice A rs.length c, .int .i64 m]) ∧ rs.length ≤ 21 ∧ (1 ≤ m ∧ m ≤ 6) ∧ OwnE w' w.heap.size A c rs ∧ Below w.heap.size w w' := by
  go_enter Try.func44, Try.ntmps44
  go_wp2_with fail
  refine (r_open A n c xs _ h).mono ?_
  rintro e w1 ⟨g, rfl, hg, hr, hb⟩
  have D := DSt.begin_ hr
  go_wp2_with fail
  refine (r_pick g _ _ _ D.rd (by omega)).mono ?_
  rintro e w2 ⟨x2, rfl, hx2, hr2, hg2⟩
  replace D := D.pick hr2 hg2
  have hM1 : 1 ≤ 1 + (x2 : Int) := by omega
  have hM6 : 1 + (x2 : Int) ≤ 6 := by omega
  clear hx2 hr2 hg2
  go_wp2_with fail
  refine (r_entries' g _ _ 9 _ D.rd (by omega) (by omega) hM1 hM6).mono ?_
  rintro e w3 ⟨A2, c2, rs, rfl, hl, O, D2⟩
  go_wp2
  go_ret2
  exact ⟨_, _, rs, _, rfl, hl, ⟨by omega, by omega⟩, own_base O (Nat.le_trans hb.size D.gr.size), r_fresh hg hb (gtrans D.gr D2.gr)⟩
set_option maxHeartbeats 1600000 in
theorem c_drawEntriesValid (A : Option Addr) (n c : Nat) (xs : List Int) (w : World) (h : CodeAt w A n c xs) :
    Calls Try.prog 40 #[.slice A n c] w fun e w' => ∃ (A : Option Addr) (c : Nat) (rs : List Entry) (m : Int), e = .returned (.tuple #[.slice A rs.length c, .int .i64 m]) ∧ rs.length ≤ 21 ∧ (0 ≤ m ∧ m ≤ 7) ∧ OwnE w' w.heap.size A c rs ∧ Below w.heap.size w w' := by
  go_enter Try.func40, Try.ntmps40
  go_wp2_with fail
  refine (r_open A n c xs _ h).mono ?_
  rintro e w1 ⟨g, rfl, hg, hr, hb⟩
  have D := DSt.begin_ hr
  go_wp2_with fail
  refine (r_pick g _ _ _ D.rd (by omega)).mono ?_
  rintro e w2 ⟨x2, rfl, hx2, hr2, hg2⟩
  replace D := D.pick hr2 hg2
  have hM1 : 1 ≤ 1 + (x2 : Int) := by omega
  have hM6 : 1 + (x2 : Int) ≤ 6 := by omega
  clear hx2 hr2 hg2
  go_wp2_with fail
  refine (r_entries' g _ _ 3 _ D.rd (by omega) (by omega) hM1 hM6).mono ?_
  rintro e w3 ⟨A2, c2, rs, rfl, hl, O, D2⟩
  have D3 := DSt.begin_ D2.rd
  have hO : OwnE w3 w2.heap.size A2 c2 rs := O
  go_wp2_with fail
  refine (r_odd g _ 6 _ D3.rd (by omega) (by omega)).mono ?_
  rintro e w4 ⟨b, rfl, _, hr4, hg4⟩
  have D4 := D3.pick hr4 hg4
  have O4 : OwnE w4 w2.heap.size A2 c2 rs := O.pick hg4 D2.lt
  have hgg := gtrans D.gr (gtrans D2.gr hg4)
  clear hr4 hg4 D3 hO O
  cases b
  · go_wp2
    go_ret2
    exact ⟨_, _, rs, _, rfl, hl, ⟨by omega, by omega⟩, own_base O4 (Nat.le_trans hb.size D.gr.size), r_fresh hg hb hgg⟩
  · have D5 := D4.alloc (.cells #[.int .i64 0, .int .i64 7] 3)
    have hB := Blk.new w4 3 #[.int .i64 0, .int .i64 7]
    have O5 : OwnE (w4.alloc (.cells #[.int .i64 0, .int .i64 7] 3)) w2.heap.size A2 c2 rs := World.ownsRow.alloc O4 _
    go_wp2_with fail
    refine (r_pick g _ _ _ D5.rd (by omega)).mono ?_
    rintro e w6 ⟨x6, rfl, hx6, hr6, hg6⟩
    have hgl := D4.rd.lt
    replace hB := hB.grown hg6 (by intro e; injection e with e; omega)
    have hgn := gtrans (galloc hgg (.cells #[.int .i64 0, .int .i64 7] 3)) hg6
    have O6 : OwnE w6 w2.heap.size A2 c2 rs := O5.pick hg6 D2.lt
    clear hr6 hg6 O5 O4 D5
    have hx62 : (x6 : Int) < 2 := by omega
    obtain ⟨y, hy, hy0, hy7⟩ : ∃ y : Int, w6.cell? ⟨w4.heap.size, x6, none⟩ = some (.int .i64 y) ∧ 0 ≤ y ∧ y ≤ 7 := by
      rcases (show x6 = 0 ∨ x6 = 1 by omega) with rfl | rfl
      · exact ⟨0, hB.cell 0, by omega, by omega⟩
      · exact ⟨7, hB.cell 1, by omega, by omega⟩
    go_wp2
    go_ret2
    exact ⟨_, _, rs, _, rfl, hl, ⟨by omega, by omega⟩, own_base O6 (Nat.le_trans hb.size D.gr.size), r_fresh hg hb hgn⟩
set_option maxHeartbeats 1600000 in
theorem c_drawTablePlaces (A : Option Addr) (n c : Nat) (xs : List Int) (w : World) (h : CodeAt w A n c xs) :
    Calls Try.prog 48 #[.slice A n c] w fun e w' => ∃ (A : Option Addr) (c : Nat) (rs : List Entry) (m gap : Int), e = .returned (.tuple #[.slice A rs.length c, .int .i64 m, .int .i64 gap]) ∧ rs.length ≤ 21 ∧ (1 ≤ m ∧ m ≤ 6) ∧ (-1 ≤ gap ∧ gap ≤ 1001) ∧ OwnE w' w.heap.size A c rs ∧ Below w.heap.size w w' := by
  go_enter Try.func48, Try.ntmps48
  go_wp2_with fail
  refine (r_open A n c xs _ h).mono ?_
  rintro e w1 ⟨g, rfl, hg, hr, hb⟩
  have D := DSt.begin_ hr
  go_wp2_with fail
  refine (r_pick g _ _ _ D.rd (by omega)).mono ?_
  rintro e w2 ⟨x2, rfl, hx2, hr2, hg2⟩
  replace D := D.pick hr2 hg2
  have hM1 : 1 ≤ 1 + (x2 : Int) := by omega
  have hM6 : 1 + (x2 : Int) ≤ 6 := by omega
  clear hx2 hr2 hg2
  go_wp2_with fail
  refine (r_entries' g _ _ 9 _ D.rd (by omega) (by omega) hM1 hM6).mono ?_
  rintro e w3 ⟨A2, c2, rs, rfl, hl, O, D2⟩
  have hr3 := D2.rd
  go_wp2
  refine wp_region_rd (g := g) (m := 0 + 1 + 100) [.is (.slice A2 rs.length c2), .is (.int .i64 (1 + x2)), .is (.pointer (some ⟨g, 0, none⟩)), .val (IsI 0 8), .arr 4 (IsI (-1) 1001), .arr 7 (IsI 0 3), .is (.pointer (some ⟨g, 0, none⟩)), .val (IsI 0 6), .elem (IsI 0 3), .val (IsI 0 3), .elem (IsI (-1) 1001), .val (IsI (-1) 1001), .is (.slice A2 rs.length c2), .is (.int .i64 (1 + x2)), .val (IsI (-1) 1001)] (by kernel_rfl) (by kernel_rfl) hr3 ?_ ?_
  · simp only [Obl]
    refine ⟨?_, ?_, ?_, ?_, ?_, ?_, ?_, ?_, ?_, ?_, ?_, ?_, ?_, ?_, ?_, trivial⟩
    · exact ob_is (.inl rfl) rfl rfl (fun v => by kernel_rfl)
    · exact ob_is (.inl rfl) rfl rfl (fun v => by kernel_rfl)
    · exact ob_is (.inl rfl) rfl rfl (fun v => by kernel_rfl)
    · exact ob_pick 2 rfl rfl (fun v => by kernel_rfl) (by kernel_rfl) rfl rfl (by omega) (by omega) (by simp <;> omega)
    · refine ob_arr (fun v => [v 3, .int .i64 1000, .int .i64 1001, .int .i64 (-1)]) rfl rfl Try.underlying40 (by kernel_rfl) (by kernel_rfl) (fun v => by kernel_rfl) (fun v => rfl) (by omega) (by omega) IsI.one (fun v w hd u hu => ?_) rfl
      have d3 : IsI 0 8 (v 3) := dep_ok hd 3 (by kernel_rfl) (t := .val (IsI 0 8)) rfl
      simp only [List.mem_cons, List.not_mem_nil, or_false] at hu
      rcases hu with rfl | rfl | rfl | rfl <;> first | (obtain ⟨x, hx, _, _⟩ := d3; exact ⟨x, hx, by omega, by omega⟩) | exact ⟨_, rfl, by omega, by omega⟩
    · refine ob_arr (fun v => [.int .i64 0, .int .i64 0, .int .i64 0, .int .i64 0, .int .i64 1, .int .i64 2, .int .i64 3]) rfl rfl Try.underlying40 (by kernel_rfl) (by kernel_rfl) (fun v => by kernel_rfl) (fun v => rfl) (by omega) (by omega) IsI.one (fun v w hd u hu => ?_) rfl
      simp only [List.mem_cons, List.not_mem_nil, or_false] at hu
      rcases hu with rfl | rfl | rfl | rfl | rfl | rfl | rfl <;> first | exact ⟨_, rfl, by omega, by omega⟩
    · exact ob_is (.inl rfl) rfl rfl (fun v => by kernel_rfl)
    · exact ob_pick 6 rfl rfl (fun v => by kernel_rfl) (by kernel_rfl) rfl rfl (by omega) (by omega) (by simp <;> omega)
    · exact ob_idx (hi' := 6) 5 rfl rfl (fun v => by kernel_rfl) (by kernel_rfl) rfl (opd_dep 7 (fun v => by kernel_rfl) (by kernel_rfl) rfl) (by omega) Try.underlying40 (by kernel_rfl) rfl
    · exact ob_load 8 rfl rfl (fun v => by kernel_rfl) (by kernel_rfl) rfl ld_int rfl
    · exact ob_idx (hi' := 3) 4 rfl rfl (fun v => by kernel_rfl) (by kernel_rfl) rfl (opd_dep 9 (fun v => by kernel_rfl) (by kernel_rfl) rfl) (by omega) Try.underlying40 (by kernel_rfl) rfl
    · exact ob_load 10 rfl rfl (fun v => by kernel_rfl) (by kernel_rfl) rfl ld_int rfl
    · exact ob_cp 0 (.inr rfl) rfl (fun v => by kernel_rfl) (by kernel_rfl) rfl
    · exact ob_cp 1 (.inr rfl) rfl (fun v => by kernel_rfl) (by kernel_rfl) rfl
    · exact ob_cp 11 (.inr rfl) rfl (fun v => by kernel_rfl) (by kernel_rfl) rfl
  · intro v wr9 hJ hT
    have hr9 : Rdr wr9 g (0 + 1 + 100 + 15) := hJ.1
    have hg9 : World.grownBy _ wr9 (some g) := hJ.2
    have e12 : v 12 = _ := hT 12 (by decide)
    have e13 : v 13 = _ := hT 13 (by decide)
    obtain ⟨y9_4, e14, hl9_4, hh9_4⟩ : IsI (-1) 1001 (v 14) := hT 14 (by decide)
    clear hT hJ
    simp only [putL, Act.put, List.setIfInBounds_toArray, List.set_cons_succ, List.set_cons_zero, e12, e13, e14]
    clear e12 e13 e14
    go_wp2
    go_ret3
    exact ⟨_, _, rs, _, _, rfl, hl, ⟨by omega, by omega⟩, ⟨by omega, by omega⟩, own_base (O.pick hg9 D2.lt) (Nat.le_trans hb.size D.gr.size), r_fresh hg hb (gtrans D.gr (gtrans D2.gr hg9))⟩
end Go.Proofs.Ytdjilkohnhejiaa
