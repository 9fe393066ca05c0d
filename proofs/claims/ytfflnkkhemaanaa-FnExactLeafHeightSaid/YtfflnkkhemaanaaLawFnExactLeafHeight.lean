/- The walk of the law FnExactLeafHeight: it returns true, whatever comes in, and changes nothing that was there. No condition. -/
import Derived.Test.YtfflnkkhemaanaaLeafH
namespace Go.Proofs.Ytfflnkkhemaanaa
open Go.RowKit
set_option linter.unusedVariables false

set_option maxHeartbeats 2000000 in
theorem w_FnExactLeafHeight (a0 : Option Addr) (len0 cap0 : Nat) (x0 : List Row) (x1 : LfV) (w : World) (h0 : RowsAt w a0 len0 cap0 x0) (h1 : LfAt w x1) :
    Calls Try.prog 4 #[.slice a0 len0 cap0, .agg #[.int .i64 x1.from_, .int .i64 x1.to_, .int .i64 x1.notes, .slice x1.A x1.figs.length x1.c]] w fun e w' => e = .returned (.bool true) ∧ Below w.heap.size w w' := by
  obtain ⟨x, y, z, A1, c1, fs⟩ := x1
  unfold LfAt at h1
  dsimp only at h1 ⊢
  have l0 := h0.len
  have bd0 := h0.bd
  have bd1 := h1.bd
  have q := Blk.new w 34 #[.int .i64 x, .int .i64 y, .int .i64 z, .slice A1 fs.length c1]
  have B := bof w (.cells #[.int .i64 x, .int .i64 y, .int .i64 z, .slice A1 fs.length c1] 34)
  by_cases big0 : 1048576 < (len0 : Int)
  · go_enter Try.func4, Try.ntmps4
    go_wp2_with fail
    refine (c_szRowS_big a0 len0 cap0 _ _ (by omega) (by omega) (by omega)).mono ?_
    rintro e w1 ⟨rfl, rfl⟩
    go_wp2
    go_ret
    exact ⟨rfl, B⟩
  go_enter Try.func4, Try.ntmps4
  go_wp2_with fail
  refine (c_szRowS_ok a0 len0 cap0 _ _ (by omega) (by omega)).mono ?_
  rintro e w1 ⟨rfl, rfl⟩
  by_cases big1 : (1048576 - (len0 : Int)) < (fs.length : Int)
  · go_wp2_with fail
    refine (c_szLeaf x y z A1 fs.length c1 _ _ (by omega) (by omega)).mono ?_
    rintro e w2 ⟨he, hb⟩
    rw [if_neg (by omega)] at he
    subst he
    go_wp2
    go_ret
    exact ⟨rfl, bnext B hb⟩
  go_wp2_with fail
  refine (c_szLeaf x y z A1 fs.length c1 _ _ (by omega) (by omega)).mono ?_
  rintro e w2 ⟨he, hb⟩
  rw [if_pos (by omega)] at he
  subst he
  subst l0
  replace q := q.next hb
  replace B := bnext B hb
  clear hb
  have q0 : w2.cell? ⟨w.heap.size, 0, none⟩ = some (.int .i64 x) := q.cell 0
  have q1 : w2.cell? ⟨w.heap.size, 1, none⟩ = some (.int .i64 y) := q.cell 1
  have q2 : w2.cell? ⟨w.heap.size, 2, none⟩ = some (.int .i64 z) := q.cell 2
  have q3 : w2.cell? ⟨w.heap.size, 3, none⟩ = some (.slice A1 fs.length c1) := q.cell 3
  go_wp2_with fail
  go_region_held3 (fun w' => w'.cell? ⟨w.heap.size, 0, none⟩ = some (.int .i64 x) ∧ w'.cell? ⟨w.heap.size, 1, none⟩ = some (.int .i64 y) ∧ w'.cell? ⟨w.heap.size, 2, none⟩ = some (.int .i64 z) ∧ w'.cell? ⟨w.heap.size, 3, none⟩ = some (.slice A1 fs.length c1))
    (first | go_keep | exact ⟨(q.drew.next hbS).cell 0, (q.drew.next hbS).cell 1, (q.drew.next hbS).cell 2, (q.drew.next hbS).cell 3⟩ | exact ⟨(q.drew.next hbL).cell 0, (q.drew.next hbL).cell 1, (q.drew.next hbL).cell 2, (q.drew.next hbL).cell 3⟩ | exact ⟨((q.drew.next hbS).next hbL).cell 0, ((q.drew.next hbS).next hbL).cell 1, ((q.drew.next hbS).next hbL).cell 2, ((q.drew.next hbS).next hbL).cell 3⟩ | exact ⟨((q.drew.next hbL).next hbS).cell 0, ((q.drew.next hbL).next hbS).cell 1, ((q.drew.next hbL).next hbS).cell 2, ((q.drew.next hbL).next hbS).cell 3⟩ | exact ⟨(((q.drew.next hbS).next hbL).next hbH).cell 0, (((q.drew.next hbS).next hbL).next hbH).cell 1, (((q.drew.next hbS).next hbL).next hbH).cell 2, (((q.drew.next hbS).next hbL).next hbH).cell 3⟩ | exact ⟨(((q.drew.next hbL).next hbS).next hbH).cell 0, (((q.drew.next hbL).next hbS).next hbH).cell 1, (((q.drew.next hbL).next hbS).next hbH).cell 2, (((q.drew.next hbL).next hbS).next hbH).cell 3⟩)
    ((first
      | (go_at_call 17; refine (c_toRowS a0 _ cap0 x0 _ (by first | exact h0.below (Nat.le_refl _) B.drew | exact h0.below (Nat.le_refl _) (bnext B.drew hbL)) (by omega)).mono ?_; rintro e wS ⟨AS, cS, rfl, S0, hbS⟩)
      | (go_at_call 18; refine (c_toLeaf x y z A1 _ c1 fs _ (by first | exact h1.below (Nat.le_refl _) B.drew | exact h1.below (Nat.le_refl _) (bnext B.drew hbS)) (by omega)).mono ?_; rintro e wL ⟨AL, cL, rfl, O, hbL⟩)
      | (go_at_call 12; refine (c_leafHeight' AS _ cS x0 x y z AL _ cL fs _ (by first | exact S0.at_ | exact (S0.next hbL).at_) (by first | exact O.at_ | exact IntsAt.next O.at_ hbS)).mono ?_; rintro e wH ⟨rfl, hbH⟩)))
  all_goals
    first
      | replace B := bnext (bnext (bnext B.drew hbS) hbL) hbH
        replace q := ((q.drew.next hbS).next hbL).next hbH
      | replace B := bnext (bnext (bnext B.drew hbL) hbS) hbH
        replace q := ((q.drew.next hbL).next hbS).next hbH
    clear S0 O hbS hbL hbH q0 q1 q2 q3
    have q0 : wH.cell? ⟨w.heap.size, 0, none⟩ = some (.int .i64 x) := q.cell 0
    have q1 : wH.cell? ⟨w.heap.size, 1, none⟩ = some (.int .i64 y) := q.cell 1
    have q2 : wH.cell? ⟨w.heap.size, 2, none⟩ = some (.int .i64 z) := q.cell 2
    have q3 : wH.cell? ⟨w.heap.size, 3, none⟩ = some (.slice A1 fs.length c1) := q.cell 3
    go_wp2_with fail
    refine (c_toRowS a0 _ cap0 x0 _ (h0.below (Nat.le_refl _) B) (by omega)).mono ?_
    rintro e w3 ⟨AX, cX, rfl, X0, hb⟩
    replace B := bnext B hb
    replace q := q.next hb
    clear hb q0 q1 q2 q3
    have q0 : w3.cell? ⟨w.heap.size, 0, none⟩ = some (.int .i64 x) := q.cell 0
    have q1 : w3.cell? ⟨w.heap.size, 1, none⟩ = some (.int .i64 y) := q.cell 1
    have q2 : w3.cell? ⟨w.heap.size, 2, none⟩ = some (.int .i64 z) := q.cell 2
    have q3 : w3.cell? ⟨w.heap.size, 3, none⟩ = some (.slice A1 fs.length c1) := q.cell 3
    go_wp2_with fail
    refine (c_toLeaf x y z A1 _ c1 fs _ (h1.below (Nat.le_refl _) B) (by omega)).mono ?_
    rintro e w4 ⟨AL, cL, rfl, O, hb⟩
    replace B := bnext B hb
    replace q := q.next hb
    replace X0 := X0.next hb
    clear hb q0 q1 q2 q3
    have B5 := bmk B (.cells #[.int .i64 x, .int .i64 y, .int .i64 z, .slice AL fs.length cL] 26)
    have p := Blk.new w4 26 #[.int .i64 x, .int .i64 y, .int .i64 z, .slice AL fs.length cL]
    have hqp : w.heap.size ≠ w4.heap.size := by have := q.lt; omega
    replace q := q.alloc (.cells #[.int .i64 x, .int .i64 y, .int .i64 z, .slice AL fs.length cL] 26)
    go_wp2_with fail
    refine (c_leafHeight AX _ cX x0 x y z AL _ cL fs _ (X0.at_.next (bof _ _)) (IntsAt.next O.at_ (bof _ _))).mono ?_
    rintro e w5 ⟨rfl, hb⟩
    replace B := bnext B5 hb
    replace q := q.next hb
    replace p := p.next hb
    replace X0 := (X0.next (bof w4 (.cells #[.int .i64 x, .int .i64 y, .int .i64 z, .slice AL fs.length cL] 26))).next hb
    replace O := (OwnI.next O (bof w4 (.cells #[.int .i64 x, .int .i64 y, .int .i64 z, .slice AL fs.length cL] 26))).next hb
    clear hb B5
    go_wp2_with fail
    refine (c_toRowS a0 _ cap0 x0 _ (h0.below (Nat.le_refl _) B) (by omega)).mono ?_
    rintro e w6 ⟨AT, cT, rfl, T0, hb⟩
    replace B := bnext B hb
    replace q := q.next hb
    replace p := p.next hb
    replace X0 := X0.next hb
    replace O := O.next hb
    clear hb
    go_wp2_with fail
    refine (c_eqRowS_same _ _ _ _ _ _ x0 _ X0.at_ T0.at_).mono ?_
    rintro e wZ ⟨rfl, hb⟩
    replace B := bnext B hb
    replace q := q.next hb
    replace p := p.next hb
    replace O := O.next hb
    clear hb X0 T0
    have q0 : wZ.cell? ⟨w.heap.size, 0, none⟩ = some (.int .i64 x) := q.cell 0
    have q1 : wZ.cell? ⟨w.heap.size, 1, none⟩ = some (.int .i64 y) := q.cell 1
    have q2 : wZ.cell? ⟨w.heap.size, 2, none⟩ = some (.int .i64 z) := q.cell 2
    have q3 : wZ.cell? ⟨w.heap.size, 3, none⟩ = some (.slice A1 fs.length c1) := q.cell 3
    have p0 : wZ.cell? ⟨w4.heap.size, 0, none⟩ = some (.int .i64 x) := p.cell 0
    have p1 : wZ.cell? ⟨w4.heap.size, 1, none⟩ = some (.int .i64 y) := p.cell 1
    have p2 : wZ.cell? ⟨w4.heap.size, 2, none⟩ = some (.int .i64 z) := p.cell 2
    have p3 : wZ.cell? ⟨w4.heap.size, 3, none⟩ = some (.slice AL fs.length cL) := p.cell 3
    go_wp2_with fail
    go_region_held3 (fun w' => w'.cell? ⟨w.heap.size, 0, none⟩ = some (.int .i64 x) ∧ w'.cell? ⟨w.heap.size, 1, none⟩ = some (.int .i64 y) ∧ w'.cell? ⟨w.heap.size, 2, none⟩ = some (.int .i64 z) ∧ w'.cell? ⟨w.heap.size, 3, none⟩ = some (.slice A1 fs.length c1) ∧ w'.cell? ⟨w4.heap.size, 0, none⟩ = some (.int .i64 x) ∧ w'.cell? ⟨w4.heap.size, 1, none⟩ = some (.int .i64 y) ∧ w'.cell? ⟨w4.heap.size, 2, none⟩ = some (.int .i64 z) ∧ w'.cell? ⟨w4.heap.size, 3, none⟩ = some (.slice AL fs.length cL))
      (first | go_keep | exact ⟨(q.drew.next hbM).cell 0, (q.drew.next hbM).cell 1, (q.drew.next hbM).cell 2, (q.drew.next hbM).cell 3, (p.drew.next hbM).cell 0, (p.drew.next hbM).cell 1, (p.drew.next hbM).cell 2, (p.drew.next hbM).cell 3⟩ | exact ⟨((q.drew.next hbM).next hbN).cell 0, ((q.drew.next hbM).next hbN).cell 1, ((q.drew.next hbM).next hbN).cell 2, ((q.drew.next hbM).next hbN).cell 3, ((p.drew.next hbM).next hbN).cell 0, ((p.drew.next hbM).next hbN).cell 1, ((p.drew.next hbM).next hbN).cell 2, ((p.drew.next hbM).next hbN).cell 3⟩)
      ((first
        | (go_at_call 18; refine (c_toLeaf x y z A1 _ c1 fs _ (h1.below (Nat.le_refl _) B.drew) (by omega)).mono ?_; rintro e wM ⟨AM, cM, rfl, OM, hbM⟩)
        | (go_at_call 20; refine (c_eqLeaf_same x y z AL AM _ _ cL cM fs _ (IntsAt.next (IntsAt.next O.at_ (Below.refl _ _).drew) hbM) OM.at_).mono ?_; rintro e wN ⟨rfl, hbN⟩)))
    go_wp2
    go_ret
    exact ⟨rfl, bnext (bnext B.drew hbM) hbN⟩
end Go.Proofs.Ytfflnkkhemaanaa
