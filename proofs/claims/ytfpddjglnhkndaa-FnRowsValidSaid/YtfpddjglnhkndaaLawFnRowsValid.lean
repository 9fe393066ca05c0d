/- The walk of the law FnRowsValid: for every code it returns true and changes nothing that was there. No condition. -/
import Derived.Test.YtfpddjglnhkndaaSplit
import Derived.Test.YtfpddjglnhkndaaDrawRows2
import Derived.Test.YtfpddjglnhkndaaAppend
import Derived.Test.YtfpddjglnhkndaaAlive
namespace Go.Proofs.Ytfpddjglnhkndaa
open Go.RowKit
set_option linter.unusedVariables false

theorem rows_one (rs : List Row) : ∀ u ∈ rs.flatMap Row.cells, u.oneCell' = true := by
  intro u hu
  rw [List.mem_flatMap] at hu
  obtain ⟨r, _, hr⟩ := hu
  exact row_one r u hr
theorem rowsValid_zero (rs : List Row) : rowsValid (rs ++ [⟨0, false, 0, 0⟩]) = false := by simp [rowsValid, rowValid, inB]

set_option maxHeartbeats 800000 in
theorem w_FnRowsValid (A : Option Addr) (n c : Nat) (xs : List Int) (w : World) (h : CodeAt w A n c xs) :
    Calls Try.prog 6 #[.slice A n c] w fun e w' => e = .returned (.bool true) ∧ Below w.heap.size w w' := by
  obtain ⟨i0, hi, hz0, hz1, hz2⟩ := info_parts infoRow
  have hcm := h.2
  unfold maxLen at hcm
  by_cases hbig : 1048576 < n
  · go_enter Try.func6, Try.ntmps6
    go_wp2
    go_ret
    exact ⟨rfl, Below.refl _ _⟩
  · go_enter Try.func6, Try.ntmps6
    go_wp2_with fail
    refine (c_drawRowsValid A n c xs _ h).mono ?_
    rintro e w1 ⟨A1, c1, rs, rfl, hl1, R, B⟩
    have hbd := R.at_.bd
    go_wp2_with fail
    refine (c_rowsValid A1 _ c1 rs _ R.at_).mono ?_
    rintro e w2 ⟨rfl, hb⟩
    replace B := bnext B hb
    replace R := R.next hb
    clear hb
    go_wp2_with fail
    refine (c_rowsValid' A1 _ c1 rs _ R.at_).mono ?_
    rintro e w3 ⟨rfl, hb⟩
    replace B := bnext B hb
    replace R := R.next hb
    clear hb
    have hh : rs.length / 2 ≤ rs.length := Nat.div_le_self _ _
    obtain ⟨A2, hR2, hsl0⟩ := rows_from R.at_ hh
    have hsl := fun wx => hsl0 wx
    rw [show ((rs.length / 2 : Nat) : Int) = (rs.length : Int) / 2 from by omega] at hsl
    clear hsl0
    cases hv : rowsValid rs
    · go_wp2_with (first
        | (at_builtin; refine wpList_append_rd _ (by rfl) (.tmp 27) (.tmp 28) 35 rfl w3.heap.size 25 i0 _ 4 32 Try.underlying35 hi hz0 hz1 hz2 rfl (by decide) _ 0 [] rfl (World.ownsRow_made w3 #[] 0 (Nat.le_refl _) (Nat.zero_le _) rfl) A1 rs.length c1 (rs.flatMap Row.cells) rfl ((R.at_.next (bof w3 (.cells #[] 25))).1) (rows_one rs) (by unfold maxLen; omega) (by omega) (by simp) ?_; intro v4 w4 O4 g4)
        | (at_builtin; refine wpList_append_rd _ (by rfl) (.tmp 29) (.tmp 31) 35 rfl w3.heap.size 25 i0 _ 4 32 Try.underlying35 hi hz0 hz1 hz2 rfl (by decide) _ _ _ rfl (World.ownsRow.alloc O4 _) (some ⟨w4.heap.size, 0, none⟩) 1 1 [.int .i64 0, .bool false, .int .i64 0, .int .i64 0] rfl (rd_new w4 25 _ 1 4 rfl) (row_one ⟨0, false, 0, 0⟩) (by unfold maxLen; omega) (by omega) (by have := g4.size; simp at this; simp; omega) ?_; intro v5 w5 O5 g5))
      have O6 : w5.ownsRow w3.heap.size 25 4 v5 (rs ++ [(⟨0, false, 0, 0⟩ : Row)]).length ((rs ++ [(⟨0, false, 0, 0⟩ : Row)]).flatMap Row.cells) := by
        rw [flat_snoc]; simpa using O5
      obtain ⟨A6, c6, rfl, O7⟩ := OwnR.of O6
      have B4 := (bmk B (.cells #[] 25)).grown g4 (by have := B.size; simp; omega) (fun q hq => by have e := Option.some.inj hq; have := B.size; dsimp only at e; omega)
      have B5 := (bmk B4 (.cells #[.int .i64 0, .bool false, .int .i64 0, .int .i64 0] 25)).grown g5 (by have := B4.size; simp; omega) (fun q hq => by have := (O4.lt q hq).1; have := B.size; omega)
      refine (c_rowsValid A6 _ c6 _ _ O7.at_).mono ?_
      rintro e w6 ⟨he, hb⟩
      rw [rowsValid_zero] at he
      subst he
      replace B5 := bnext B5 hb
      clear hb
      go_wp2_with fail
      refine (c_alive _).mono ?_
      rintro e w7 ⟨rfl, hb⟩
      go_wp2
      go_ret
      exact ⟨rfl, bnext B5 hb⟩
    · go_wp2_with fail
      refine (c_rowsValid A2 _ _ _ _ hR2).mono ?_
      rintro e wh ⟨he, hb⟩
      rw [rowsValid_drop hv] at he
      subst he
      replace B := bnext B hb
      replace R := R.next hb
      clear hb
      go_wp2_with (first
        | (at_builtin; refine wpList_append_rd _ (by rfl) (.tmp 27) (.tmp 28) 35 rfl wh.heap.size 25 i0 _ 4 32 Try.underlying35 hi hz0 hz1 hz2 rfl (by decide) _ 0 [] rfl (World.ownsRow_made wh #[] 0 (Nat.le_refl _) (Nat.zero_le _) rfl) A1 rs.length c1 (rs.flatMap Row.cells) rfl ((R.at_.next (bof wh (.cells #[] 25))).1) (rows_one rs) (by unfold maxLen; omega) (by omega) (by simp) ?_; intro v4 w4 O4 g4)
        | (at_builtin; refine wpList_append_rd _ (by rfl) (.tmp 29) (.tmp 31) 35 rfl wh.heap.size 25 i0 _ 4 32 Try.underlying35 hi hz0 hz1 hz2 rfl (by decide) _ _ _ rfl (World.ownsRow.alloc O4 _) (some ⟨w4.heap.size, 0, none⟩) 1 1 [.int .i64 0, .bool false, .int .i64 0, .int .i64 0] rfl (rd_new w4 25 _ 1 4 rfl) (row_one ⟨0, false, 0, 0⟩) (by unfold maxLen; omega) (by omega) (by have := g4.size; simp at this; simp; omega) ?_; intro v5 w5 O5 g5))
      have O6 : w5.ownsRow wh.heap.size 25 4 v5 (rs ++ [(⟨0, false, 0, 0⟩ : Row)]).length ((rs ++ [(⟨0, false, 0, 0⟩ : Row)]).flatMap Row.cells) := by
        rw [flat_snoc]; simpa using O5
      obtain ⟨A6, c6, rfl, O7⟩ := OwnR.of O6
      have B4 := (bmk B (.cells #[] 25)).grown g4 (by have := B.size; simp; omega) (fun q hq => by have e := Option.some.inj hq; have := B.size; dsimp only at e; omega)
      have B5 := (bmk B4 (.cells #[.int .i64 0, .bool false, .int .i64 0, .int .i64 0] 25)).grown g5 (by have := B4.size; simp; omega) (fun q hq => by have := (O4.lt q hq).1; have := B.size; omega)
      refine (c_rowsValid A6 _ c6 _ _ O7.at_).mono ?_
      rintro e w6 ⟨he, hb⟩
      rw [rowsValid_zero] at he
      subst he
      replace B5 := bnext B5 hb
      clear hb
      go_wp2_with fail
      refine (c_alive _).mono ?_
      rintro e w7 ⟨rfl, hb⟩
      go_wp2
      go_ret
      exact ⟨rfl, bnext B5 hb⟩
end Go.Proofs.Ytfpddjglnhkndaa
