/- Drawing rows and a height. No condition. -/
import Derived.Test.YtfpddjglnhkndaaDrawRows2
import Derived.Deep.RegionWith
import Derived.Deep.DeepCutAuto
namespace Go.Proofs.Ytfpddjglnhkndaa
open Go.RowKit
set_option linter.unusedVariables false

/-- A number is drawn: what is read behind the draw, told as a rule. -/
theorem r_pickR (g m : Nat) (N : Int) (w : World) (h : Rdr w g m) (hm : m ≤ 1000000) :
    Calls Try.prog 56 #[.pointer (some ⟨g, 0, none⟩), .int .i64 N] w fun e w' => ∃ x : Nat, e = .returned (.int .i64 x) ∧ ((x : Int) < N ∨ x = 0) ∧ Rdr w' g (m + 1) ∧ w.grownBy w' (some g) ∧
      g < w'.heap.size ∧ w.heap.size ≤ w'.heap.size ∧ (∀ b o, g < b → b < w.heap.size → w'.cell? ⟨b, o, none⟩ = w.cell? ⟨b, o, none⟩) :=
  (r_pick g m N w h hm).mono fun e w' ⟨x, he, hx, hr, hg⟩ => ⟨x, he, hx, hr, hg, hr.lt, hg.size, fun b o hb hl => World.cell?_of_block (hg.block b hl (fun e => by injection e with e; omega))⟩

theorem tab8 (x : Nat) (hx : x < 8) : ∃ t : Nat, ([.int .i64 0, .int .i64 0, .int .i64 0, .int .i64 0, .int .i64 1, .int .i64 2, .int .i64 3, .int .i64 4] : List Value)[x]? = some (.int .i64 t) ∧ t < 5 := by
  rcases (show x = 0 ∨ x = 1 ∨ x = 2 ∨ x = 3 ∨ x = 4 ∨ x = 5 ∨ x = 6 ∨ x = 7 by omega) with rfl | rfl | rfl | rfl | rfl | rfl | rfl | rfl
  · exact ⟨0, rfl, by omega⟩
  · exact ⟨0, rfl, by omega⟩
  · exact ⟨0, rfl, by omega⟩
  · exact ⟨0, rfl, by omega⟩
  · exact ⟨1, rfl, by omega⟩
  · exact ⟨2, rfl, by omega⟩
  · exact ⟨3, rfl, by omega⟩
  · exact ⟨4, rfl, by omega⟩
theorem tab5 (t x : Nat) (ht : t < 5) (hx : x < 40) : ∃ y : Int, ([.int .i64 x, .int .i64 0, .int .i64 1000000, .int .i64 1000001, .int .i64 (-1)] : List Value)[t]? = some (.int .i64 y) ∧ -1 ≤ y ∧ y ≤ 1000001 := by
  rcases (show t = 0 ∨ t = 1 ∨ t = 2 ∨ t = 3 ∨ t = 4 by omega) with rfl | rfl | rfl | rfl | rfl
  · exact ⟨x, rfl, by omega, by omega⟩
  · exact ⟨0, rfl, by omega, by omega⟩
  · exact ⟨1000000, rfl, by omega, by omega⟩
  · exact ⟨1000001, rfl, by omega, by omega⟩
  · exact ⟨-1, rfl, by omega, by omega⟩
set_option maxHeartbeats 6400000 in
theorem c_drawSplitRows (A : Option Addr) (n c : Nat) (xs : List Int) (w : World) (h : CodeAt w A n c xs) :
    Calls Try.prog 40 #[.slice A n c] w fun e w' => ∃ (A : Option Addr) (c : Nat) (rs : List Row) (y : Int), e = .returned (.tuple #[.slice A rs.length c, .int .i64 y]) ∧ rs.length ≤ 31 ∧ -1 ≤ y ∧ y ≤ 1000001 ∧ OwnR w' w.heap.size A c rs ∧ Below w.heap.size w w' := by
  go_enter Try.func40, Try.ntmps40
  go_wp2_with fail
  refine (r_open A n c xs _ h).mono ?_
  rintro e w1 ⟨g, rfl, hg, hr, hb⟩
  go_wp2_with fail
  refine (r_rows' g _ 9 _ hr (by omega) (by omega)).mono ?_
  rintro e w2 ⟨A2, c2, rs, rfl, hl, ho, hr2, hg2⟩
  have hB := r_fresh hg hb hg2
  have ho2 := own_base ho hb.size
  have hgl := hr2.lt
  go_wp2
  go_region_with (first
    | (go_at_call_of 56 (Value.int IntKind.i64 40); refine (r_pickR g (0 + 500) _ _ ?_ (by omega)).mono ?_; (first | exact hr2.drew | exact hr2.drew.alloc _); rintro e w3 ⟨x1, rfl, hx1, hr3, hg3, hs3, ht3, hu3⟩; (first | (have hz23 : w2.heap.size < w3.heap.size := (by (try simp at ht3); omega); have hz32 : w2.heap.size ≠ w3.heap.size := (by omega)) | skip))
    | (go_at_call_of 56 (Value.int IntKind.i64 8); go_loud (refine (r_pickR g (0 + 500 + 1) _ _ ?_ (by omega)).mono ?_; (first | exact hr3 | exact hr3.alloc _ | exact (hr3.alloc _).alloc _); rintro e w4 ⟨x2, rfl, hx2, hr4, hg4, hs4, ht4, hu4⟩; obtain ⟨t, ht, htl⟩ := tab8 x2 (by omega); obtain ⟨y, hy, hyl, hyh⟩ := tab5 t x1 htl (by omega); obtain ⟨_, hyg⟩ := List.getElem?_eq_some_iff.1 hy; have hx8 : (x2 : Int) < 8 := (by omega); (first | (have hz34 : w3.heap.size < w4.heap.size := (by (try simp at ht4); (try simp at ht3); omega); have hz43 : w3.heap.size ≠ w4.heap.size := (by omega)) | skip); (first | (have hz24 : w2.heap.size < w4.heap.size := (by (try simp at ht4); (try simp at ht3); omega); have hz42 : w2.heap.size ≠ w4.heap.size := (by omega)) | skip); have ht5 : (t : Int) < 5 := (by omega); have ht50 : (0 : Int) ≤ (t : Int) := (by omega))))
  all_goals
    go_wp2
    go_ret2
    refine ⟨A2, c2, rs, y, rfl, hl, hyl, hyh, ?_, ?_⟩
    · refine World.ownsRow.kept ho2 (row := some g) ?_ (.inr (fun e => by have := (World.ownsRow.lt ho _ e).1; have := hr.lt; omega))
      repeat (first | exact grefl _ _ | refine gdrew ?_ | refine gtrans ?_ hg4 | refine gtrans ?_ hg3 | refine galloc ?_ _)
    · refine bgrown hB hg ?_ hB.size
      repeat (first | exact grefl _ _ | refine gdrew ?_ | refine gtrans ?_ hg4 | refine gtrans ?_ hg3 | refine galloc ?_ _)
end Go.Proofs.Ytfpddjglnhkndaa
