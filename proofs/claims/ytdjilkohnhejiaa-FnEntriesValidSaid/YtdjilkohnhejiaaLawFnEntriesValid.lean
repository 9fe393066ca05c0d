/- The walk of the law FnEntriesValid: for every code it returns true and changes nothing that was there. No condition. -/
import Derived.Test.YtdjilkohnhejiaaEntriesA
import Derived.Test.YtdjilkohnhejiaaDrawEntries2
import Derived.Test.YtdjilkohnhejiaaAppend
import Derived.Test.YtdjilkohnhejiaaAlive
namespace Go.Proofs.Ytdjilkohnhejiaa
open Go.RowKit
set_option linter.unusedVariables false

theorem entries_one (rs : List Entry) : ∀ u ∈ rs.flatMap Entry.cells, u.oneCell' = true := by
  intro u hu
  rw [List.mem_flatMap] at hu
  obtain ⟨r, _, hr⟩ := hu
  exact one_entries r u hr
theorem entriesValid_more {rs : List Entry} {m : Int} (h : entriesValid rs m = true) (hm : m ≠ 6) : entriesValid rs (m + 1) = true := by
  simp only [entriesValid, Bool.and_eq_true, decide_eq_true_eq, inB_iff, List.all_eq_true] at h ⊢
  refine ⟨⟨by omega, h.1.2⟩, fun e he => ?_⟩
  have := h.2 e he
  simp only [entryOk, Bool.and_eq_true, inB_iff] at this ⊢
  omega
theorem entriesValid_bad (rs : List Entry) (m : Int) : entriesValid (rs ++ [⟨m, 1, 0⟩]) m = false := by
  rw [entriesValid, List.all_append]
  have : entryOk m ⟨m, 1, 0⟩ = false := by simp [entryOk, inB] <;> omega
  simp [this]

theorem entries_parts {rs : List Entry} {m : Int} (h : entriesValid rs m = true) : 1 ≤ m ∧ m ≤ 6 ∧ rs.length ≤ 20 ∧ rs.all (entryOk m) = true := by
  simp only [entriesValid, Bool.and_eq_true, decide_eq_true_eq, inB_iff] at h
  exact ⟨h.1.1.1, h.1.1.2, h.1.2, h.2⟩
set_option maxHeartbeats 1600000 in
theorem w_FnEntriesValid (A : Option Addr) (n c : Nat) (xs : List Int) (w : World) (h : CodeAt w A n c xs) :
    Calls Try.prog 10 #[.slice A n c] w fun e w' => e = .returned (.bool true) ∧ Below w.heap.size w w' := by
  obtain ⟨i0, hi, hz0, hz1, hz2⟩ := info_parts infoEntry
  have hcm := h.2
  unfold maxLen at hcm
  by_cases hbig : 1048576 < n
  · go_enter Try.func10, Try.ntmps10
    go_wp2
    go_ret
    exact ⟨rfl, Below.refl _ _⟩
  · go_enter Try.func10, Try.ntmps10
    go_wp2_with fail
    refine (c_drawEntriesValid A n c xs _ h).mono ?_
    rintro e w1 ⟨A1, c1, rs, m, rfl, hl1, ⟨hm0, hm7⟩, R, B⟩
    have hbd := R.at_.bd
    cases hv : entriesValid rs m
    · go_wp2_with fail
      refine (c_entriesValid_b hv _ R.at_).mono ?_
      rintro e w2 ⟨rfl, hb⟩
      replace B := bnext B hb
      replace R := R.next hb
      clear hb
      go_wp2_with fail
      refine (c_entriesValid_b' hv _ R.at_).mono ?_
      rintro e wh ⟨rfl, hb⟩
      replace B := bnext B hb
      replace R := R.next hb
      clear hb hv
      go_wp2_with (first
        | (at_builtin; refine wpList_append_rd _ (by rfl) (.tmp 35) (.tmp 36) 52 rfl wh.heap.size 59 i0 _ 3 24 Try.underlying52 hi hz0 hz1 hz2 rfl (by decide) _ 0 [] rfl (World.ownsRow_made wh #[] 0 (Nat.le_refl _) (Nat.zero_le _) rfl) A1 rs.length c1 (rs.flatMap Entry.cells) rfl ((R.at_.next (bof wh (.cells #[] 59))).1) (entries_one rs) (by unfold maxLen; omega) (by omega) (by simp) ?_; intro v4 w4 O4 g4)
        | (at_builtin; refine wpList_append_rd _ (by rfl) (.tmp 37) (.tmp 40) 52 rfl wh.heap.size 59 i0 _ 3 24 Try.underlying52 hi hz0 hz1 hz2 rfl (by decide) _ _ _ rfl (World.ownsRow.alloc O4 _) (some ⟨w4.heap.size, 0, none⟩) 1 1 [.int .i64 m, .int .i64 1, .int .i64 0] rfl (rd_new w4 59 _ 1 3 rfl) (one_entries ⟨m, 1, 0⟩) (by unfold maxLen; omega) (by omega) (by have := g4.size; simp at this; simp; omega) ?_; intro v5 w5 O5 g5))
      have O6 : w5.ownsRow wh.heap.size 59 3 v5 (rs ++ [(⟨m, 1, 0⟩ : Entry)]).length ((rs ++ [(⟨m, 1, 0⟩ : Entry)]).flatMap Entry.cells) := by
        rw [flat_snoc_entries]; simpa using O5
      obtain ⟨A6, c6, rfl, O7⟩ := OwnE.of O6
      have B4 := (bmk B (.cells #[] 59)).grown g4 (by have := B.size; simp; omega) (fun q hq => by have e := Option.some.inj hq; have := B.size; dsimp only at e; omega)
      have B5 := (bmk B4 (.cells #[.int .i64 m, .int .i64 1, .int .i64 0] 59)).grown g5 (by have := B4.size; simp; omega) (fun q hq => by have := (O4.lt q hq).1; have := B.size; omega)
      refine (c_entriesValid_b (entriesValid_bad rs m) _ O7.at_).mono ?_
      rintro e w6 ⟨rfl, hb⟩
      replace B5 := bnext B5 hb
      clear hb
      go_wp2_with fail
      refine (c_alive _).mono ?_
      rintro e w7 ⟨rfl, hb⟩
      go_wp2
      go_ret
      exact ⟨rfl, bnext B5 hb⟩
    · obtain ⟨hv1, hv2, _, _⟩ := entries_parts hv
      by_cases h6 : m = 6
      · subst h6
        go_wp2_with fail
        refine (c_entriesValid_b hv _ R.at_).mono ?_
        rintro e w2 ⟨rfl, hb⟩
        replace B := bnext B hb
        replace R := R.next hb
        clear hb
        go_wp2_with fail
        refine (c_entriesValid_b' hv _ R.at_).mono ?_
        rintro e wh ⟨rfl, hb⟩
        replace B := bnext B hb
        replace R := R.next hb
        clear hb hv
        go_wp2_with (first
          | (at_builtin; refine wpList_append_rd _ (by rfl) (.tmp 35) (.tmp 36) 52 rfl wh.heap.size 59 i0 _ 3 24 Try.underlying52 hi hz0 hz1 hz2 rfl (by decide) _ 0 [] rfl (World.ownsRow_made wh #[] 0 (Nat.le_refl _) (Nat.zero_le _) rfl) A1 rs.length c1 (rs.flatMap Entry.cells) rfl ((R.at_.next (bof wh (.cells #[] 59))).1) (entries_one rs) (by unfold maxLen; omega) (by omega) (by simp) ?_; intro v4 w4 O4 g4)
          | (at_builtin; refine wpList_append_rd _ (by rfl) (.tmp 37) (.tmp 40) 52 rfl wh.heap.size 59 i0 _ 3 24 Try.underlying52 hi hz0 hz1 hz2 rfl (by decide) _ _ _ rfl (World.ownsRow.alloc O4 _) (some ⟨w4.heap.size, 0, none⟩) 1 1 [.int .i64 6, .int .i64 1, .int .i64 0] rfl (rd_new w4 59 _ 1 3 rfl) (one_entries ⟨6, 1, 0⟩) (by unfold maxLen; omega) (by omega) (by have := g4.size; simp at this; simp; omega) ?_; intro v5 w5 O5 g5))
        have O6 : w5.ownsRow wh.heap.size 59 3 v5 (rs ++ [(⟨6, 1, 0⟩ : Entry)]).length ((rs ++ [(⟨6, 1, 0⟩ : Entry)]).flatMap Entry.cells) := by
          rw [flat_snoc_entries]; simpa using O5
        obtain ⟨A6, c6, rfl, O7⟩ := OwnE.of O6
        have B4 := (bmk B (.cells #[] 59)).grown g4 (by have := B.size; simp; omega) (fun q hq => by have e := Option.some.inj hq; have := B.size; dsimp only at e; omega)
        have B5 := (bmk B4 (.cells #[.int .i64 6, .int .i64 1, .int .i64 0] 59)).grown g5 (by have := B4.size; simp; omega) (fun q hq => by have := (O4.lt q hq).1; have := B.size; omega)
        refine (c_entriesValid_b (entriesValid_bad rs 6) _ O7.at_).mono ?_
        rintro e w6 ⟨rfl, hb⟩
        replace B5 := bnext B5 hb
        clear hb
        go_wp2_with fail
        refine (c_alive _).mono ?_
        rintro e w7 ⟨rfl, hb⟩
        go_wp2
        go_ret
        exact ⟨rfl, bnext B5 hb⟩
      · have h66 : (m == 6) = false := by simpa using h6
        have hv3 := entriesValid_more hv h6
        go_wp2_with fail
        refine (c_entriesValid_b hv _ R.at_).mono ?_
        rintro e w2 ⟨rfl, hb⟩
        replace B := bnext B hb
        replace R := R.next hb
        clear hb
        go_wp2_with fail
        refine (c_entriesValid_b' hv _ R.at_).mono ?_
        rintro e w3 ⟨rfl, hb⟩
        replace B := bnext B hb
        replace R := R.next hb
        clear hb hv
        go_wp2_with fail
        refine (c_entriesValid_b hv3 _ R.at_).mono ?_
        rintro e wh ⟨rfl, hb⟩
        replace B := bnext B hb
        replace R := R.next hb
        clear hb hv3
        go_wp2_with (first
          | (at_builtin; refine wpList_append_rd _ (by rfl) (.tmp 35) (.tmp 36) 52 rfl wh.heap.size 59 i0 _ 3 24 Try.underlying52 hi hz0 hz1 hz2 rfl (by decide) _ 0 [] rfl (World.ownsRow_made wh #[] 0 (Nat.le_refl _) (Nat.zero_le _) rfl) A1 rs.length c1 (rs.flatMap Entry.cells) rfl ((R.at_.next (bof wh (.cells #[] 59))).1) (entries_one rs) (by unfold maxLen; omega) (by omega) (by simp) ?_; intro v4 w4 O4 g4)
          | (at_builtin; refine wpList_append_rd _ (by rfl) (.tmp 37) (.tmp 40) 52 rfl wh.heap.size 59 i0 _ 3 24 Try.underlying52 hi hz0 hz1 hz2 rfl (by decide) _ _ _ rfl (World.ownsRow.alloc O4 _) (some ⟨w4.heap.size, 0, none⟩) 1 1 [.int .i64 m, .int .i64 1, .int .i64 0] rfl (rd_new w4 59 _ 1 3 rfl) (one_entries ⟨m, 1, 0⟩) (by unfold maxLen; omega) (by omega) (by have := g4.size; simp at this; simp; omega) ?_; intro v5 w5 O5 g5))
        have O6 : w5.ownsRow wh.heap.size 59 3 v5 (rs ++ [(⟨m, 1, 0⟩ : Entry)]).length ((rs ++ [(⟨m, 1, 0⟩ : Entry)]).flatMap Entry.cells) := by
          rw [flat_snoc_entries]; simpa using O5
        obtain ⟨A6, c6, rfl, O7⟩ := OwnE.of O6
        have B4 := (bmk B (.cells #[] 59)).grown g4 (by have := B.size; simp; omega) (fun q hq => by have e := Option.some.inj hq; have := B.size; dsimp only at e; omega)
        have B5 := (bmk B4 (.cells #[.int .i64 m, .int .i64 1, .int .i64 0] 59)).grown g5 (by have := B4.size; simp; omega) (fun q hq => by have := (O4.lt q hq).1; have := B.size; omega)
        refine (c_entriesValid_b (entriesValid_bad rs m) _ O7.at_).mono ?_
        rintro e w6 ⟨rfl, hb⟩
        replace B5 := bnext B5 hb
        clear hb
        go_wp2_with fail
        refine (c_alive _).mono ?_
        rintro e w7 ⟨rfl, hb⟩
        go_wp2
        go_ret
        exact ⟨rfl, bnext B5 hb⟩
end Go.Proofs.Ytdjilkohnhejiaa
