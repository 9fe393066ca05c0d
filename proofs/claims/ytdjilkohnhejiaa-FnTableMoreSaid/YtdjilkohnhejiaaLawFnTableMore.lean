/- The walk of the law FnTableMore: for every code it returns true and changes nothing that was there. No condition. -/
import Derived.Test.YtdjilkohnhejiaaTables2
import Derived.Test.YtdjilkohnhejiaaDrawEntries2
import Derived.Test.YtdjilkohnhejiaaAppend
import Derived.Test.YtdjilkohnhejiaaAlive
namespace Go.Proofs.Ytdjilkohnhejiaa
open Go.RowKit
set_option linter.unusedVariables false

theorem entries_one (rs : List Entry) : ∀ u ∈ rs.flatMap Entry.cells, u.oneCell' = true := by
  intro u hu
  rw [List.mem_flatMap] at hu
  obtain ⟨r, _, hr⟩ := hu
  exact one_entries r u hr
theorem colW_more {rs : List Entry} {ws : List Int} {e : Entry} : colW (rs ++ [e]) ws = colStep ws (colW rs ws) e := by simp [colW]
theorem tw_more (rs : List Entry) (M : Nat) (W : Int) : ∀ c, c < M → tw (rs ++ [⟨0, M, W⟩]) c = tw rs c
  | 0, _ => rfl
  | c + 1, h => by
    rw [tw, tw, tw_more rs M W c (by omega), colW_more, colStep, if_neg]
    rw [tw_len]; dsimp only; omega
theorem total_more (rs : List Entry) (M : Nat) (W : Int) (hM : 1 ≤ M) : (tw rs M).sum ≤ (tw (rs ++ [⟨0, M, W⟩]) M).sum ∧ W ≤ (tw (rs ++ [⟨0, M, W⟩]) M).sum := by
  obtain ⟨c, rfl⟩ : ∃ c, M = c + 1 := ⟨M - 1, by omega⟩
  rw [tw, tw, tw_more rs (c + 1) W c (by omega), colW_more, colStep, if_pos (by rw [tw_len]; dsimp only; omega)]
  have : sumFrom (tw rs c) (0 : Int).toNat = (tw rs c).sum := rfl
  simp only [List.sum_append, List.sum_cons, List.sum_nil, this]
  omega

set_option maxHeartbeats 3200000 in
theorem w_FnTableMore (A : Option Addr) (n c : Nat) (xs : List Int) (w : World) (h : CodeAt w A n c xs) :
    Calls Try.prog 13 #[.slice A n c] w fun e w' => e = .returned (.bool true) ∧ Below w.heap.size w w' := by
  obtain ⟨i0, hi, hz0, hz1, hz2⟩ := info_parts infoEntry
  have hcm := h.2
  unfold maxLen at hcm
  by_cases hbig : 1048576 < n
  · go_enter Try.func13, Try.ntmps13
    go_wp2
    go_ret
    exact ⟨rfl, Below.refl _ _⟩
  · go_enter Try.func13, Try.ntmps13
    go_wp2_with fail
    refine (c_drawTableWidths A n c xs _ h).mono ?_
    rintro e w1 ⟨A1, c1, rs, m, rfl, hl1, ⟨hm0, hm7⟩, R, B⟩
    obtain ⟨X, HX⟩ : ∃ X, Hid (X = tableWidths rs m) := ⟨_, rfl⟩
    have hX6 : X.length ≤ 6 := by rw [unhide HX]; exact tableWidths_len rs m
    have hbdR := R.at_.bd
    obtain ⟨W, HW, hW0, hW1⟩ : ∃ W : Int, Hid (W = (n : Int) % 100) ∧ 0 ≤ W ∧ W ≤ 99 := ⟨_, rfl, by omega, by omega⟩
    go_wp2_with fail
    refine (c_tableWidths A1 _ c1 rs m _ R.at_).mono ?_
    rintro e w2 ⟨A2, c2, he, O, hb⟩
    rw [← unhide HX] at he O
    subst he
    replace B := bnext B hb
    replace R := R.next hb
    clear hb
    go_wp2_with fail
    refine (c_tableWidths' A1 _ c1 rs m _ R.at_).mono ?_
    rintro e w3 ⟨A3, c3, he, O', hb⟩
    rw [← unhide HX] at he O'
    subst he
    replace B := bnext B hb
    replace R := R.next hb
    replace O := O.next hb
    clear hb
    go_wp2_with fail
    refine (c_sameInts_same _ _ _ _ _ _ X _ O.at_ O'.at_).mono ?_
    rintro e wh ⟨rfl, hb⟩
    replace B := bnext B hb
    replace R := R.next hb
    replace O := O.next hb
    clear hb O'
    go_wp2_with (first
      | (at_builtin; refine wpList_append_rd _ (by rfl) (.tmp 24) (.tmp 25) 52 rfl wh.heap.size 59 i0 _ 3 24 Try.underlying52 hi hz0 hz1 hz2 rfl (by decide) _ 0 [] rfl (World.ownsRow_made wh #[] 0 (Nat.le_refl _) (Nat.zero_le _) rfl) A1 rs.length c1 (rs.flatMap Entry.cells) rfl ((R.at_.next (bof wh (.cells #[] 59))).1) (entries_one rs) (by unfold maxLen; omega) (by omega) (by simp) ?_; intro v4 w4 O4 g4)
      | (at_builtin; (try rw [← unhide HW]); refine wpList_append_rd _ (by rfl) (.tmp 26) (.tmp 32) 52 rfl wh.heap.size 59 i0 _ 3 24 Try.underlying52 hi hz0 hz1 hz2 rfl (by decide) _ _ _ rfl (World.ownsRow.alloc O4 _) (some ⟨w4.heap.size, 0, none⟩) 1 1 [.int .i64 0, .int .i64 m, .int .i64 W] rfl (rd_new w4 59 _ 1 3 rfl) (one_entries ⟨0, m, W⟩) (by unfold maxLen; omega) (by omega) (by have := g4.size; simp at this; simp; omega) ?_; intro v5 w5 O5 g5))
    have O6 : w5.ownsRow wh.heap.size 59 3 v5 (rs ++ [(⟨0, m, W⟩ : Entry)]).length ((rs ++ [(⟨0, m, W⟩ : Entry)]).flatMap Entry.cells) := by
      rw [flat_snoc_entries]; simpa using O5
    obtain ⟨mo, HMO⟩ : ∃ mo, Hid (mo = rs ++ [(⟨0, m, W⟩ : Entry)]) := ⟨_, rfl⟩
    rw [← unhide HMO] at O6
    obtain ⟨A6, c6, rfl, O7⟩ := OwnE.of O6
    have W4 := (bof wh (.cells #[] 59)).grown g4 (by simp) (fun q hq => by have e := Option.some.inj hq; dsimp only at e; omega)
    have W5 := (bmk W4 (.cells #[.int .i64 0, .int .i64 m, .int .i64 W] 59)).grown g5 (by have := W4.size; simp; omega) (fun q hq => (O4.lt q hq).1)
    replace B := bnext B W5
    replace R := R.next W5
    replace O := O.next W5
    clear W4 W5 O4 O5 O6 g4 g5
    cases hv : entriesValid rs m
    · refine (c_entriesValid_b' hv _ R.at_).mono ?_
      rintro e w6 ⟨rfl, hb⟩
      replace B := bnext B hb
      clear hb
      go_wp2_with fail
      refine (c_alive _).mono ?_
      rintro e w7 ⟨rfl, hb⟩
      go_wp2
      go_ret
      exact ⟨rfl, bnext B hb⟩
    · refine (c_entriesValid_b' hv _ R.at_).mono ?_
      rintro e w6 ⟨rfl, hb⟩
      replace B := bnext B hb
      replace O := O.next hb
      replace O7 := O7.next hb
      clear hb
      cases hv2 : entriesValid mo m
      · go_wp2_with fail
        refine (c_entriesValid_b' hv2 _ O7.at_).mono ?_
        rintro e w7 ⟨rfl, hb⟩
        replace B := bnext B hb
        clear hb
        go_wp2_with fail
        refine (c_alive _).mono ?_
        rintro e w8 ⟨rfl, hb⟩
        go_wp2
        go_ret
        exact ⟨rfl, bnext B hb⟩
      · obtain ⟨hm1, hm2, hl, hall⟩ := valid_parts hv
        obtain ⟨_, _, hl2, hall2⟩ := valid_parts hv2
        obtain ⟨M, rfl⟩ := Int.eq_ofNat_of_zero_le (show 0 ≤ m by omega)
        obtain ⟨Y, HY⟩ : ∃ Y, Hid (Y = tableWidths mo M) := ⟨_, rfl⟩
        have hYe : Y = tw mo M := by rw [unhide HY]; simp [tableWidths, hv2]
        have hXe : X = tw rs M := by rw [unhide HX]; simp [tableWidths, hv]
        have htm := total_more rs M W (by omega)
        rw [← unhide HMO, ← hYe, ← hXe] at htm
        obtain ⟨hs1, hs2⟩ := htm
        have hXb : ∀ x ∈ X, 0 ≤ x ∧ x ≤ 1000000 := fun x hx => by
          rw [hXe] at hx
          have := tw_bd (fun e he => (entries_w hall e he).2.2.2.2.2) M x hx; omega
        have hYb : ∀ x ∈ Y, 0 ≤ x ∧ x ≤ 1000000 := fun x hx => by
          rw [hYe] at hx
          have := tw_bd (fun e he => (entries_w hall2 e he).2.2.2.2.2) M x hx; omega
        have hY6 : Y.length ≤ 6 := by rw [unhide HY]; exact tableWidths_len _ _
        have HXB := hide hXb
        have HYB := hide hYb
        have HV2 := hide hv2
        have hs3 : (n : Int) % 100 ≤ Y.sum := by rw [← unhide HW]; exact hs2
        clear hXb hYb hYe hXe hall hall2 hl hl2 hv hs2
        obtain ⟨SX, HSX⟩ : ∃ s, Hid (s = X.sum) := ⟨_, rfl⟩
        obtain ⟨SY, HSY⟩ : ∃ s, Hid (s = Y.sum) := ⟨_, rfl⟩
        rw [← unhide HSX, ← unhide HSY] at hs1
        rw [← unhide HSY] at hs3
        go_wp2_with fail
        refine (c_entriesValid_b' hv2 _ O7.at_).mono ?_
        rintro e w7 ⟨rfl, hb⟩
        replace B := bnext B hb
        replace O := O.next hb
        replace O7 := O7.next hb
        clear hb hv2
        go_wp2_with fail
        refine (c_tableWidths A6 _ c6 _ M _ O7.at_).mono ?_
        rintro e w8 ⟨A8, c8, he, V, hb⟩
        rw [← unhide HY] at he V
        subst he
        replace B := bnext B hb
        replace O := O.next hb
        replace O7 := O7.next hb
        clear hb
        go_wp2_with fail
        refine (c_total A8 _ c8 Y _ V.at_ (unhide HYB) (by omega)).mono ?_
        rintro e w9 ⟨he, hb⟩
        rw [← unhide HSY] at he
        subst he
        replace B := bnext B hb
        replace O := O.next hb
        replace O7 := O7.next hb
        clear hb V
        go_wp2_with fail
        refine (c_total A2 _ c2 X _ O.at_ (unhide HXB) (by omega)).mono ?_
        rintro e w10 ⟨he, hb⟩
        rw [← unhide HSX] at he
        subst he
        replace B := bnext B hb
        replace O7 := O7.next hb
        clear hb O
        go_wp2_with fail
        refine (c_tableWidths A6 _ c6 _ M _ O7.at_).mono ?_
        rintro e w11 ⟨A9, c9, he, V, hb⟩
        rw [← unhide HY] at he V
        subst he
        replace B := bnext B hb
        clear hb O7
        go_wp2_with fail
        refine (c_total A9 _ c9 Y _ V.at_ (unhide HYB) (by omega)).mono ?_
        rintro e w12 ⟨he, hb⟩
        rw [← unhide HSY] at he
        subst he
        replace B := bnext B hb
        clear hb V
        go_wp2
        go_ret
        exact ⟨rfl, B⟩
end Go.Proofs.Ytdjilkohnhejiaa
