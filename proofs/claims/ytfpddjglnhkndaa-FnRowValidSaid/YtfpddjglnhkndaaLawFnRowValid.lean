/- The walk of the law FnRowValid: for every code it returns true and changes nothing that was there. No condition. -/
import Derived.Test.YtfpddjglnhkndaaDrawRows2
import Derived.Test.YtfpddjglnhkndaaAlive
namespace Go.Proofs.Ytfpddjglnhkndaa
open Go.RowKit
set_option linter.unusedVariables false

set_option maxHeartbeats 400000 in
theorem c_drawRowValid (A : Option Addr) (n c : Nat) (xs : List Int) (w : World) (h : CodeAt w A n c xs) :
    Calls Try.prog 18 #[.slice A n c] w fun e w' => ∃ r : Row, e = .returned (.agg #[.int .i64 r.h, .bool r.k, .int .i64 r.n, .int .i64 r.f]) ∧ Below w.heap.size w w' := by
  go_enter Try.func18, Try.ntmps18
  go_wp2_with fail
  refine (r_open A n c xs _ (h.next (bof _ _))).mono ?_
  rintro e w1 ⟨g, rfl, hg, hr, hb⟩
  go_wp2_with fail
  refine (r_row g _ 2 _ hr (by omega) (by omega)).mono ?_
  rintro e w2 ⟨r, rfl, hr2, hg2⟩
  have hb2 : Blk w2 w.heap.size 25 #[.int .i64 0, .bool false, .int .i64 0, .int .i64 0] := ((Blk.new w _ _).next hb).grown hg2 (by simp at hg; simp; omega)
  have hbel : Below w.heap.size w w2 := bgrown (bnext (bof w _) hb) (by simp at hg; omega) hg2 (by have := hb.size; simp at this; omega)
  have p0 : w2.cell? ⟨w.heap.size, 0, none⟩ = some (.int .i64 0) := hb2.cell 0
  have p1 : w2.cell? ⟨w.heap.size, 1, none⟩ = some (.bool false) := hb2.cell 1
  have p2 : w2.cell? ⟨w.heap.size, 2, none⟩ = some (.int .i64 0) := hb2.cell 2
  have p3 : w2.cell? ⟨w.heap.size, 3, none⟩ = some (.int .i64 0) := hb2.cell 3
  have f0 := hb2.frozen 0
  have f1 := hb2.frozen 1
  have f2 := hb2.frozen 2
  have f3 := hb2.frozen 3
  clear hg hr hb hr2 hg2 hb2
  go_wp2
  refine bodyPost_ret (v := .agg #[.int .i64 r.h, .bool r.k, .int .i64 r.n, .int .i64 r.f]) (by simp [results, Try.results18, go_sem, p0, p1, p2, p3]) rfl ?_
  exact ⟨r, rfl, (((hbel.setCell (p := ⟨w.heap.size, 0, none⟩) (Nat.le_refl _) _).setCell (p := ⟨w.heap.size, 1, none⟩) (Nat.le_refl _) _).setCell (p := ⟨w.heap.size, 2, none⟩) (Nat.le_refl _) _).setCell (p := ⟨w.heap.size, 3, none⟩) (Nat.le_refl _) _⟩

set_option maxHeartbeats 400000 in
theorem w_FnRowValid (A : Option Addr) (n c : Nat) (xs : List Int) (w : World) (h : CodeAt w A n c xs) :
    Calls Try.prog 4 #[.slice A n c] w fun e w' => e = .returned (.bool true) ∧ Below w.heap.size w w' := by
  have hcm := h.2
  unfold maxLen at hcm
  by_cases hbig : 1048576 < n
  · go_enter Try.func4, Try.ntmps4
    go_wp2
    go_ret
    exact ⟨rfl, Below.refl _ _⟩
  · go_enter Try.func4, Try.ntmps4
    go_wp2_with fail
    refine (c_drawRowValid A n c xs _ h).mono ?_
    rintro e w1 ⟨r, rfl, hb1⟩
    go_wp2_with fail
    refine (c_rowValid r _).mono ?_
    rintro e w2 ⟨rfl, hb2⟩
    have q := (Blk.new w1 25 #[.int .i64 r.h, .bool r.k, .int .i64 r.n, .int .i64 r.f]).next hb2
    have B2 := bnext (bmk hb1 (.cells #[.int .i64 r.h, .bool r.k, .int .i64 r.n, .int .i64 r.f] 25)) hb2
    have q0 : w2.cell? ⟨w1.heap.size, 0, none⟩ = some (.int .i64 r.h) := q.cell 0
    have q1 : w2.cell? ⟨w1.heap.size, 1, none⟩ = some (.bool r.k) := q.cell 1
    have q2 : w2.cell? ⟨w1.heap.size, 2, none⟩ = some (.int .i64 r.n) := q.cell 2
    have q3 : w2.cell? ⟨w1.heap.size, 3, none⟩ = some (.int .i64 r.f) := q.cell 3
    go_wp2_with fail
    refine (c_rowValid' r _).mono ?_
    rintro e w3 ⟨rfl, hb3⟩
    have B3 := bnext B2 hb3
    have q := q.next hb3
    clear q0 q1 q2 q3
    have q1 : w3.cell? ⟨w1.heap.size, 1, none⟩ = some (.bool r.k) := q.cell 1
    have q2 : w3.cell? ⟨w1.heap.size, 2, none⟩ = some (.int .i64 r.n) := q.cell 2
    go_wp2_with fail
    refine (c_rowValid ⟨0, false, r.n, 0⟩ _).mono ?_
    rintro e w4 ⟨he, hb4⟩
    rw [show rowValid ⟨0, false, r.n, 0⟩ = false from by simp [rowValid, inB]] at he
    subst he
    have B4 := bnext B3 hb4
    have q := q.next hb4
    clear q1 q2
    have q1 : w4.cell? ⟨w1.heap.size, 1, none⟩ = some (.bool r.k) := q.cell 1
    go_wp2_with fail
    refine (c_rowValid ⟨1, r.k, 0, 0⟩ _).mono ?_
    rintro e w5 ⟨he, hb5⟩
    rw [show rowValid ⟨1, r.k, 0, 0⟩ = true from by simp [rowValid, inB]] at he
    subst he
    have B5 := bnext B4 hb5
    go_wp2_with fail
    refine (c_alive _).mono ?_
    rintro e w6 ⟨rfl, hb6⟩
    have B6 := bnext B5 hb6
    go_wp2_with fail
    go_ret
    exact ⟨rfl, B6⟩
end Go.Proofs.Ytfpddjglnhkndaa
