/- Drawing rows, the height of a page, pages. No condition. -/
import Derived.Test.YtfflnkkhemaanaaDrawRows2
import Derived.Test.YtfflnkkhemaanaaTy
import Derived.Test.YtfflnkkhemaanaaPages3
namespace Go.Proofs.Ytfflnkkhemaanaa
open Go.RowKit
set_option linter.unusedVariables false

set_option maxHeartbeats 1600000 in
theorem r_high (g m : Nat) (w : World) (h : Rdr w g m) (hm : m ≤ 800000) :
    Calls Try.prog 55 #[.pointer (some ⟨g, 0, none⟩)] w fun e w' => ∃ y : Int, e = .returned (.int .i64 y) ∧ (0 ≤ y ∧ y ≤ 1001) ∧ Rdr w' g (m + 15) ∧ w.grownBy w' (some g) := by
  go_enter Try.func55, Try.ntmps55
  go_wp2_with fail
  refine (r_pick g m _ _ h (by omega)).mono ?_
  rintro e w1 ⟨x1, rfl, hx1, hr1, hg1⟩
  go_wp2_with fail
  refine (r_pick g _ _ _ hr1 (by omega)).mono ?_
  rintro e w2 ⟨x2, rfl, hx2, hr2, hg2⟩
  have hr3 := (hr2.alloc (.cells #[.int .i64 (6 + x1), .int .i64 (1 + x2), .int .i64 1000, .int .i64 0, .int .i64 1001] 3)).alloc (.cells #[.int .i64 0, .int .i64 0, .int .i64 0, .int .i64 0, .int .i64 1, .int .i64 1, .int .i64 2, .int .i64 3, .int .i64 4] 3)
  have hA := (Blk.new w2 3 #[.int .i64 (6 + x1), .int .i64 (1 + x2), .int .i64 1000, .int .i64 0, .int .i64 1001]).alloc (.cells #[.int .i64 0, .int .i64 0, .int .i64 0, .int .i64 0, .int .i64 1, .int .i64 1, .int .i64 2, .int .i64 3, .int .i64 4] 3)
  have hB := Blk.new (w2.alloc (.cells #[.int .i64 (6 + x1), .int .i64 (1 + x2), .int .i64 1000, .int .i64 0, .int .i64 1001] 3)) 3 #[.int .i64 0, .int .i64 0, .int .i64 0, .int .i64 0, .int .i64 1, .int .i64 1, .int .i64 2, .int .i64 3, .int .i64 4]
  have hG3 := galloc (galloc (gtrans hg1 hg2) (.cells #[.int .i64 (6 + x1), .int .i64 (1 + x2), .int .i64 1000, .int .i64 0, .int .i64 1001] 3)) (.cells #[.int .i64 0, .int .i64 0, .int .i64 0, .int .i64 0, .int .i64 1, .int .i64 1, .int .i64 2, .int .i64 3, .int .i64 4] 3)
  have hgl := hr2.lt
  go_wp2_with fail
  refine (r_pick g _ _ _ hr3 (by omega)).mono ?_
  rintro e w3 ⟨x3, rfl, hx3, hr4, hg4⟩
  replace hA := hA.grown hg4 (by intro e; injection e with e; omega)
  replace hB := hB.grown hg4 (by intro e; injection e with e; simp at e; omega)
  have hG4 := gtrans hG3 hg4
  simp only [size_alloc'] at hB
  obtain ⟨t, ht, htc⟩ : ∃ t : Nat, t < 5 ∧ w3.cell? ⟨w2.heap.size + 1, x3, none⟩ = some (.int .i64 t) := by
    rcases (show x3 = 0 ∨ x3 = 1 ∨ x3 = 2 ∨ x3 = 3 ∨ x3 = 4 ∨ x3 = 5 ∨ x3 = 6 ∨ x3 = 7 ∨ x3 = 8 by omega) with rfl | rfl | rfl | rfl | rfl | rfl | rfl | rfl | rfl
    · exact ⟨0, by omega, hB.cell 0⟩
    · exact ⟨0, by omega, hB.cell 1⟩
    · exact ⟨0, by omega, hB.cell 2⟩
    · exact ⟨0, by omega, hB.cell 3⟩
    · exact ⟨1, by omega, hB.cell 4⟩
    · exact ⟨1, by omega, hB.cell 5⟩
    · exact ⟨2, by omega, hB.cell 6⟩
    · exact ⟨3, by omega, hB.cell 7⟩
    · exact ⟨4, by omega, hB.cell 8⟩
  obtain ⟨y, hy0, hy1, hyc⟩ : ∃ y : Int, 0 ≤ y ∧ y ≤ 1001 ∧ w3.cell? ⟨w2.heap.size, t, none⟩ = some (.int .i64 y) := by
    rcases (show t = 0 ∨ t = 1 ∨ t = 2 ∨ t = 3 ∨ t = 4 by omega) with rfl | rfl | rfl | rfl | rfl
    · exact ⟨6 + x1, by omega, by omega, hA.cell 0⟩
    · exact ⟨1 + x2, by omega, by omega, hA.cell 1⟩
    · exact ⟨1000, by omega, by omega, hA.cell 2⟩
    · exact ⟨0, by omega, by omega, hA.cell 3⟩
    · exact ⟨1001, by omega, by omega, hA.cell 4⟩
  have hx38 : (x3 : Int) < 9 := by omega
  have ht5 : (t : Int) < 5 := by omega
  clear hA hB hx1 hx2 hx3 hG3 hr3
  go_wp2
  go_ret
  exact ⟨y, rfl, ⟨hy0, hy1⟩, hr4.mono (by omega), hG4⟩
set_option maxHeartbeats 800000 in
theorem c_drawBestPages (A : Option Addr) (n c : Nat) (xs : List Int) (w : World) (h : CodeAt w A n c xs) :
    Calls Try.prog 51 #[.slice A n c] w fun e w' => ∃ (A : Option Addr) (c : Nat) (rs : List Row) (y : Int), e = .returned (.tuple #[.slice A rs.length c, .int .i64 y]) ∧ rs.length ≤ 31 ∧ (0 ≤ y ∧ y ≤ 1001) ∧ OwnR w' w.heap.size A c rs ∧ Below w.heap.size w w' := by
  go_enter Try.func51, Try.ntmps51
  go_wp2_with fail
  refine (r_open A n c xs _ h).mono ?_
  rintro e w1 ⟨g, rfl, hg, hr, hb⟩
  go_wp2_with fail
  refine (r_rows' g _ 9 _ hr (by omega) (by omega)).mono ?_
  rintro e w2 ⟨A2, c2, rs, rfl, hl, O, hr2, hg2⟩
  have hgl := hr.lt
  go_wp2_with fail
  refine (r_high g _ _ hr2 (by omega)).mono ?_
  rintro e w3 ⟨y, rfl, hy, hr3, hg3⟩
  have O3 : OwnR w3 w1.heap.size A2 c2 rs := World.ownsRow.kept O hg3 (.inr (fun e => by have := (World.ownsRow.lt O _ e).1; omega))
  go_wp2
  go_ret2
  exact ⟨_, _, rs, y, rfl, hl, hy, own_base O3 hb.size, r_fresh hg hb (gtrans hg2 hg3)⟩
end Go.Proofs.Ytfflnkkhemaanaa
