/- The walk of the law FnBestPages: for every code it returns true and changes nothing that was there. No condition. -/
import Derived.Test.YtpbccblenohhoaaPagesR
import Derived.Test.YtpbccblenohhoaaPages5
import Derived.Test.YtpbccblenohhoaaPages6
import Derived.Test.YtpbccblenohhoaaDrawPages
import Derived.Test.YtpbccblenohhoaaAlive
import Derived.Deep.DeepCutAuto
namespace Go.Proofs.Ytpbccblenohhoaa
open Go.RowKit
set_option linter.unusedVariables false

theorem pagesCost_of {rs : List Row} {h : Int} {es : List Int} {s : Int} (ha : argsOk rs h = true) (e : costGo rs h 0 es = some s) : pagesCost rs h es = s := by
  rw [pagesCost, if_pos ha, e]; rfl
theorem pagesCost_cases (rs : List Row) (h : Int) (es : List Int) : pagesCost rs h es = -1 ∨ ∃ s, argsOk rs h = true ∧ costGo rs h 0 es = some s ∧ pagesCost rs h es = s := by
  cases ha : argsOk rs h
  · exact .inl (by rw [pagesCost, ha]; rfl)
  · cases hc : costGo rs h 0 es with
    | none => exact .inl (by rw [pagesCost, ha, hc]; rfl)
    | some s => exact .inr ⟨s, rfl, rfl, pagesCost_of ha hc⟩
theorem best_none {rs : List Row} {h : Int} (e : bestOf rs h = none) (es : List Int) : pagesCost rs h es < 0 := by
  rcases pagesCost_cases rs h es with h1 | ⟨s, ha, hc, hp⟩
  · omega
  · have := (best_le es 0 s hc).1
    rw [bestOf, if_pos (by simp [ha, this])] at e
    cases e
theorem best_some {rs : List Row} {h : Int} {b : List Int} (e : bestOf rs h = some b) :
    b.length ≤ 31 ∧ 0 ≤ pagesCost rs h b ∧ (rs.length = 0 ∨ 0 < b.length) ∧ ∀ es, pagesCost rs h es < 0 ∨ pagesCost rs h b ≤ pagesCost rs h es := by
  unfold bestOf at e
  split at e
  · rename_i ha
    simp only [Bool.and_eq_true, decide_eq_true_eq] at ha
    obtain ⟨hva, hv, hl, hh1, hh2⟩ := args_parts ha.1
    have e1 := Option.some.inj e
    have hc := follow_cost rs.length 0 (by omega) (by omega) ha.2
    have hfl := follow_len rs (bestTab rs h) rs.length 0
    have hfn : 0 < rs.length → (follow rs (bestTab rs h) rs.length 0).length ≠ 0 := fun h0 => follow_ne h0 (Nat.le_refl _)
    rw [e1] at hc hfl hfn
    have hp := pagesCost_of ha.1 hc
    refine ⟨by omega, by omega, by omega, fun es => ?_⟩
    rcases pagesCost_cases rs h es with h1 | ⟨s, _, hs, hp2⟩
    · exact .inl (by omega)
    · have := (best_le es 0 s hs).2
      exact .inr (by omega)
  · cases e
def maskN (n : Nat) : Int := wrap64 (2 ^ (if 0 < if (n : Int) - 1 < 9 then (n : Int) - 1 else 9 then if (n : Int) - 1 < 9 then (n : Int) - 1 else 9 else 0).toNat)
theorem maskN_le (n : Nat) : maskN n ≤ 512 := by
  have h : ∀ j : Nat, j ≤ 9 → wrap64 ((2 : Int) ^ j) ≤ 512 := by
    intro j hj
    rcases (show j = 0 ∨ j = 1 ∨ j = 2 ∨ j = 3 ∨ j = 4 ∨ j = 5 ∨ j = 6 ∨ j = 7 ∨ j = 8 ∨ j = 9 by omega) with rfl | rfl | rfl | rfl | rfl | rfl | rfl | rfl | rfl | rfl <;> decide +kernel
  exact h _ (by split <;> (try split) <;> omega)
set_option maxRecDepth 100000 in
set_option maxHeartbeats 8000000 in
theorem w_FnBestPages (A : Option Addr) (n c : Nat) (xs : List Int) (w : World) (h : CodeAt w A n c xs) :
    Calls Try.prog 8 #[.slice A n c] w fun e w' => e = .returned (.bool true) ∧ Below w.heap.size w w' := by
  have hcm := h.2
  unfold maxLen at hcm
  by_cases hbig : 1048576 < n
  · go_enter Try.func8, Try.ntmps8
    go_wp2
    go_ret
    exact ⟨rfl, Below.refl _ _⟩
  · go_enter Try.func8, Try.ntmps8
    go_wp2_with fail
    refine (c_drawBestPages A n c xs _ h).mono ?_
    rintro e w1 ⟨A1, c1, rs, y, rfl, hl1, ⟨hy0, hy1⟩, R, B⟩
    have hbdR := R.at_.bd
    clear hbig hcm h
    cases hq : bestOf rs y with
    | none =>
      have hP : bestPages rs y = [] := by rw [bestPages, hq] <;> rfl
      have hall := best_none hq
      have hb0 := hall []
      have hb0' : decide (0 ≤ pagesCost rs y []) = false := by simp; omega
      have HALL := hide hall
      have HQ := hide hq
      clear hq hall
      go_wp2_with fail
      refine (c_bestPages A1 _ c1 rs y _ R.at_).mono ?_
      rintro e w2 ⟨A2, c2, he, X, hb⟩
      rw [hP, unhide HQ] at he
      rw [hP] at X
      subst he
      replace B := bnext B hb
      replace R := R.next hb
      clear hb
      go_wp2_with fail
      refine (c_bestPages' A1 _ c1 rs y _ R.at_).mono ?_
      rintro e w3 ⟨A3, c3, he, Y, hb⟩
      rw [hP, unhide HQ] at he
      rw [hP] at Y
      subst he
      replace B := bnext B hb
      replace R := R.next hb
      replace X := X.next hb
      clear hb hP HQ
      go_wp2_with fail
      refine (c_sameInts_same _ _ _ _ _ _ [] _ X.at_ Y.at_).mono ?_
      rintro e w4 ⟨rfl, hb⟩
      replace B := bnext B hb
      replace R := R.next hb
      replace X := X.next hb
      clear hb Y
      go_wp2_with fail
      refine (c_pagesCost A1 _ c1 rs y _ _ _ [] _ R.at_ X.at_).mono ?_
      rintro e w5 ⟨rfl, hb⟩
      replace B := bnext B hb
      replace R := R.next hb
      clear hb X
      go_wp2
      go_loopw [11] (fun i wr => ∃ k : Nat, k ≤ 512 ∧ i = .int .i64 k ∧ OwnR wr w.heap.size A1 c1 rs ∧ Below w.heap.size w wr) (fun i _ => 512 - (intOf i).toNat)
      case atStart => exact ⟨0, by omega, by go_num, R, B⟩
      case round =>
        clear R B
        obtain ⟨k, hk, rfl, R, B⟩ := hrel
        obtain ⟨wL, rfl⟩ : ∃ wL : World, wL = wr := ⟨_, rfl⟩
        have hX := maskN_le rs.length
        unfold maskN at hX
        by_cases hlt : wrap64 (2 ^ (if 0 < if (rs.length : Int) - 1 < 9 then (rs.length : Int) - 1 else 9 then if (rs.length : Int) - 1 < 9 then (rs.length : Int) - 1 else 9 else 0).toNat) ≤ (k : Int)
        · clear hX
          go_wp2_with fail
          all_goals
            refine (c_alive _).mono ?_
            rintro e w9 ⟨rfl, hb⟩
            go_wp2
            go_ret
            exact ⟨rfl, bnext B hb⟩
        · have hk2 : k < 512 := by omega
          clear hX
          go_wp2_with fail
          all_goals
            have I0 : OwnI (wL.alloc (.cells #[] 3)) wL.heap.size (some ⟨wL.heap.size, 0, none⟩) 0 [] := World.ownsRow_made wL #[] 0 (Nat.le_refl _) (Nat.zero_le _) rfl
            have BL := bof wL (.cells #[] 3)
            clear hlt
            go_loopw [12, 13] (fun v i wr => ∃ (j : Nat) (AI : Option Addr) (cI : Nat) (es : List Int), 1 ≤ j ∧ j ≤ 32 ∧ es.length < j ∧ i = .int .i64 j ∧ v = .slice AI es.length cI ∧ OwnI wr wL.heap.size AI cI es ∧ Below wL.heap.size wL wr) (fun _ i _ => 40 - (intOf i).toNat)
            case atStart => exact ⟨1, _, _, [], by omega, by omega, by simp, by go_num, rfl, I0, BL⟩
            case round =>
              clear I0 BL
              obtain ⟨j, AI, cI, es, hj1, hj2, hes, rfl, rfl, I, BI⟩ := hrel
              have hbs := BI.size
              by_cases hlt : (j : Int) < (rs.length : Int)
              · go_wp2_with (at_builtin; refine wpList_push_I (w0 := wL) (j : Int) rfl rfl I rfl rfl (by omega) hbs ?_; intro A6 c6 w6 O6 hg6 hpre; have B6 : Below wL.heap.size wL w6 := b_own (bmk BI _) hpre (Nat.le_refl _) hg6; clear hg6 hpre I BI hbs)
                all_goals
                  go_roundw
                  case rel => first | exact ⟨j + 1, A6, c6, es ++ [(j : Int)], by omega, by omega, by simp; omega, by go_num, by simp, O6, B6⟩ | exact ⟨j + 1, AI, cI, es, by omega, by omega, by omega, by go_num, rfl, I, BI⟩
                  case measure => simp [intOf]; omega
              · by_cases hn0 : 0 < (rs.length : Int)
                · go_wp2_with (at_builtin; refine wpList_push_I (w0 := wL) (rs.length : Int) rfl rfl I rfl rfl (by omega) hbs ?_; intro A6 c6 w6 O6 hg6 hpre; have B6 : Below wL.heap.size wL w6 := b_own (bmk BI _) hpre (Nat.le_refl _) hg6; have J6 : IntsAt w6 A6 (es.length + 1) c6 (es ++ [(rs.length : Int)]) := (by have h := O6.at_; rw [List.length_append] at h; exact h); clear hg6 hpre I BI hbs O6)
                  obtain ⟨fs, HFS⟩ : ∃ fs, Hid (fs = es ++ [(rs.length : Int)]) := ⟨_, rfl⟩
                  rw [← unhide HFS] at J6
                  refine (c_pagesCost A1 _ c1 rs y _ _ _ fs _ (R.next B6).at_ J6).mono ?_
                  rintro e w8 ⟨rfl, hb⟩
                  have B8 := bnext (bnext B B6) hb
                  have R8 := (R.next B6).next hb
                  have hc := unhide HALL fs
                  clear J6 B6 hb R B HFS
                  have hc2 : decide (0 ≤ pagesCost rs y fs) = false := by simp; omega
                  go_wp2
                  go_roundw
                  case rel => exact ⟨k + 1, by omega, by go_num, R8, B8⟩
                  case measure => simp [intOf]; omega
                · try (exfalso; omega)
                  all_goals
                    go_wp2_with fail
                    refine (c_pagesCost A1 _ c1 rs y _ _ _ es _ (R.next BI).at_ I.at_).mono ?_
                    rintro e w8 ⟨rfl, hb⟩
                    have B8 := bnext (bnext B BI) hb
                    have R8 := (R.next BI).next hb
                    have hc := unhide HALL es
                    clear I BI hb R B
                    have hc2 : decide (0 ≤ pagesCost rs y es) = false := by simp; omega
                    go_wp2
                    go_roundw
                    case rel => exact ⟨k + 1, by omega, by go_num, R8, B8⟩
                    case measure => simp [intOf]; omega
    | some b =>
      have hP : bestPages rs y = b := by rw [bestPages, hq] <;> rfl
      obtain ⟨hbl, hb0, hbn, hall⟩ := best_some hq
      have hb0' : decide (0 ≤ pagesCost rs y b) = true := by simp; omega
      have HALL := hide hall
      have HQ := hide hq
      clear hq hall
      go_wp2_with fail
      refine (c_bestPages A1 _ c1 rs y _ R.at_).mono ?_
      rintro e w2 ⟨A2, c2, he, X, hb⟩
      rw [hP, unhide HQ] at he
      rw [hP] at X
      subst he
      replace B := bnext B hb
      replace R := R.next hb
      clear hb
      go_wp2_with fail
      refine (c_bestPages' A1 _ c1 rs y _ R.at_).mono ?_
      rintro e w3 ⟨A3, c3, he, Y, hb⟩
      rw [hP, unhide HQ] at he
      rw [hP] at Y
      subst he
      replace B := bnext B hb
      replace R := R.next hb
      replace X := X.next hb
      clear hb hP HQ
      go_wp2_with fail
      refine (c_sameInts_same _ _ _ _ _ _ b _ X.at_ Y.at_).mono ?_
      rintro e w4 ⟨rfl, hb⟩
      replace B := bnext B hb
      replace R := R.next hb
      replace X := X.next hb
      clear hb Y
      go_wp2_with fail
      refine (c_pagesCost A1 _ c1 rs y _ _ _ b _ R.at_ X.at_).mono ?_
      rintro e w5 ⟨rfl, hb⟩
      replace B := bnext B hb
      replace R := R.next hb
      clear hb X
      have hbn' : ((rs.length : Int) == 0) = true ∨ (((rs.length : Int) == 0) = false ∧ decide (0 < (b.length : Int)) = true ∧ 0 < b.length) := by
        rcases hbn with h0 | h0
        · exact .inl (by simp [h0])
        · by_cases h1 : rs.length = 0
          · exact .inl (by simp [h1])
          · exact .inr ⟨by simp [h1], by simp; omega, h0⟩
      rcases hbn' with h00 | ⟨h00, h01, h02⟩
      all_goals
        go_wp2
        go_loopw [11] (fun i wr => ∃ k : Nat, k ≤ 512 ∧ i = .int .i64 k ∧ OwnR wr w.heap.size A1 c1 rs ∧ Below w.heap.size w wr) (fun i _ => 512 - (intOf i).toNat)
        case atStart => exact ⟨0, by omega, by go_num, R, B⟩
        case round =>
          clear R B
          obtain ⟨k, hk, rfl, R, B⟩ := hrel
          obtain ⟨wL, rfl⟩ : ∃ wL : World, wL = wr := ⟨_, rfl⟩
          have hX := maskN_le rs.length
          unfold maskN at hX
          by_cases hlt : wrap64 (2 ^ (if 0 < if (rs.length : Int) - 1 < 9 then (rs.length : Int) - 1 else 9 then if (rs.length : Int) - 1 < 9 then (rs.length : Int) - 1 else 9 else 0).toNat) ≤ (k : Int)
          · clear hX
            go_wp2_with fail
            all_goals
              refine (c_alive _).mono ?_
              rintro e w9 ⟨rfl, hb⟩
              go_wp2
              go_ret
              exact ⟨rfl, bnext B hb⟩
          · have hk2 : k < 512 := by omega
            clear hX
            go_wp2_with fail
            all_goals
              have I0 : OwnI (wL.alloc (.cells #[] 3)) wL.heap.size (some ⟨wL.heap.size, 0, none⟩) 0 [] := World.ownsRow_made wL #[] 0 (Nat.le_refl _) (Nat.zero_le _) rfl
              have BL := bof wL (.cells #[] 3)
              clear hlt
              go_loopw [12, 13] (fun v i wr => ∃ (j : Nat) (AI : Option Addr) (cI : Nat) (es : List Int), 1 ≤ j ∧ j ≤ 32 ∧ es.length < j ∧ i = .int .i64 j ∧ v = .slice AI es.length cI ∧ OwnI wr wL.heap.size AI cI es ∧ Below wL.heap.size wL wr) (fun _ i _ => 40 - (intOf i).toNat)
              case atStart => exact ⟨1, _, _, [], by omega, by omega, by simp, by go_num, rfl, I0, BL⟩
              case round =>
                clear I0 BL
                obtain ⟨j, AI, cI, es, hj1, hj2, hes, rfl, rfl, I, BI⟩ := hrel
                have hbs := BI.size
                by_cases hlt : (j : Int) < (rs.length : Int)
                · go_wp2_with (at_builtin; refine wpList_push_I (w0 := wL) (j : Int) rfl rfl I rfl rfl (by omega) hbs ?_; intro A6 c6 w6 O6 hg6 hpre; have B6 : Below wL.heap.size wL w6 := b_own (bmk BI _) hpre (Nat.le_refl _) hg6; clear hg6 hpre I BI hbs)
                  all_goals
                    go_roundw
                    case rel => first | exact ⟨j + 1, A6, c6, es ++ [(j : Int)], by omega, by omega, by simp; omega, by go_num, by simp, O6, B6⟩ | exact ⟨j + 1, AI, cI, es, by omega, by omega, by omega, by go_num, rfl, I, BI⟩
                    case measure => simp [intOf]; omega
                · by_cases hn0 : 0 < (rs.length : Int)
                  · go_wp2_with (at_builtin; refine wpList_push_I (w0 := wL) (rs.length : Int) rfl rfl I rfl rfl (by omega) hbs ?_; intro A6 c6 w6 O6 hg6 hpre; have B6 : Below wL.heap.size wL w6 := b_own (bmk BI _) hpre (Nat.le_refl _) hg6; have J6 : IntsAt w6 A6 (es.length + 1) c6 (es ++ [(rs.length : Int)]) := (by have h := O6.at_; rw [List.length_append] at h; exact h); clear hg6 hpre I BI hbs O6)
                    obtain ⟨fs, HFS⟩ : ∃ fs, Hid (fs = es ++ [(rs.length : Int)]) := ⟨_, rfl⟩
                    rw [← unhide HFS] at J6
                    refine (c_pagesCost A1 _ c1 rs y _ _ _ fs _ (R.next B6).at_ J6).mono ?_
                    rintro e w8 ⟨rfl, hb⟩
                    have B8 := bnext (bnext B B6) hb
                    have R8 := (R.next B6).next hb
                    have hc := unhide HALL fs
                    clear J6 B6 hb R B HFS
                    rcases hc with hc | hc
                    · have hc2 : decide (0 ≤ pagesCost rs y fs) = false := by simp; omega
                      go_wp2
                      go_roundw
                      case rel => exact ⟨k + 1, by omega, by go_num, R8, B8⟩
                      case measure => simp [intOf]; omega
                    · have hc1 : 0 ≤ pagesCost rs y fs := by omega
                      have hc2 : decide (0 ≤ pagesCost rs y fs) = true := by simp; omega
                      have hc3 : decide (pagesCost rs y fs < pagesCost rs y b) = false := by simp; omega
                      go_wp2
                      go_roundw
                      case rel => exact ⟨k + 1, by omega, by go_num, R8, B8⟩
                      case measure => simp [intOf]; omega
                  · try (exfalso; omega)
                    all_goals
                      go_wp2_with fail
                      refine (c_pagesCost A1 _ c1 rs y _ _ _ es _ (R.next BI).at_ I.at_).mono ?_
                      rintro e w8 ⟨rfl, hb⟩
                      have B8 := bnext (bnext B BI) hb
                      have R8 := (R.next BI).next hb
                      have hc := unhide HALL es
                      clear I BI hb R B
                      rcases hc with hc | hc
                      · have hc2 : decide (0 ≤ pagesCost rs y es) = false := by simp; omega
                        go_wp2
                        go_roundw
                        case rel => exact ⟨k + 1, by omega, by go_num, R8, B8⟩
                        case measure => simp [intOf]; omega
                      · have hc1 : 0 ≤ pagesCost rs y es := by omega
                        have hc2 : decide (0 ≤ pagesCost rs y es) = true := by simp; omega
                        have hc3 : decide (pagesCost rs y es < pagesCost rs y b) = false := by simp; omega
                        go_wp2
                        go_roundw
                        case rel => exact ⟨k + 1, by omega, by go_num, R8, B8⟩
                        case measure => simp [intOf]; omega
end Go.Proofs.Ytpbccblenohhoaa
