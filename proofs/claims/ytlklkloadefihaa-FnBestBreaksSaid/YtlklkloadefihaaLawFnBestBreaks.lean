/- The walk of the law FnBestBreaks: for every code it returns true and changes nothing that was there. No condition. -/
import Derived.Test.YtlklkloadefihaaMc
import Derived.Test.YtlklkloadefihaaMbt
import Derived.Test.YtlklkloadefihaaBestC
import Derived.Test.YtlklkloadefihaaMayB
import Derived.Test.YtlklkloadefihaaMa
import Derived.Test.YtlklkloadefihaaDrawW
namespace Go.Proofs.Ytlklkloadefihaa
open Go.RowKit
set_option linter.unusedVariables false

def maskN (n : Nat) : Int := wrap64 ((2 : Int) ^ (if (n : Int) < 8 then (n : Int) else 8).toNat)
theorem maskN_le (n : Nat) : maskN n ≤ 256 := by
  have h : ∀ j : Nat, j ≤ 8 → wrap64 ((2 : Int) ^ j) ≤ 256 := by
    intro j hj
    rcases (show j = 0 ∨ j = 1 ∨ j = 2 ∨ j = 3 ∨ j = 4 ∨ j = 5 ∨ j = 6 ∨ j = 7 ∨ j = 8 by omega) with rfl | rfl | rfl | rfl | rfl | rfl | rfl | rfl | rfl <;> decide +kernel
  exact h _ (by split <;> omega)
set_option maxRecDepth 100000 in
set_option maxHeartbeats 6400000 in
theorem w_FnBestBreaks (A : Option Addr) (n c : Nat) (xs : List Int) (w : World) (h : CodeAt w A n c xs) :
    Calls Try.prog 10 #[.slice A n c] w fun e w' => e = .returned (.bool true) ∧ Below w.heap.size w w' := by
  have hcm := h.2
  unfold maxLen at hcm
  by_cases hbig : 1048576 < n
  · go_enter Try.func10, Try.ntmps10
    go_wp2
    go_ret
    exact ⟨rfl, Below.refl _ _⟩
  · go_enter Try.func10, Try.ntmps10
    go_wp2_with fail
    refine (c_drawBestBreaks A n c xs _ h).mono ?_
    rintro e w1 ⟨A1, c1, rs, y, z, rfl, hl1, R, B⟩
    have hbdR := R.at_.bd
    clear hbig hcm h
    cases hq : bestBr rs y z with
    | none =>
      have hP : bestBreaks rs y z = [] := by rw [bestBreaks, hq] <;> rfl
      have HALL : Hid (∀ bs, brCost rs y z bs < 0) := bestBr_none_cost hq
      obtain ⟨p, HP0⟩ : ∃ p, Hid (brCost rs y z [] = p) := ⟨_, rfl⟩
      have hp : p < 0 := by rw [← unhide HP0]; exact unhide HALL []
      have gp : decide (0 ≤ p) = false := decide_eq_false (by omega)
      have HQ := hide hq
      clear hq
      go_wp2_with fail
      refine (c_bestBreaks A1 _ c1 rs y z _ R.at_).mono ?_
      rintro e w2 ⟨A2, c2, he, X, hb⟩
      rw [hP, unhide HQ] at he
      rw [hP] at X
      subst he
      replace B := bnext B hb
      replace R := R.next hb
      clear hb
      go_wp2_with fail
      refine (c_bestBreaks' A1 _ c1 rs y z _ R.at_).mono ?_
      rintro e w3 ⟨A3, c3, he, Y, hb⟩
      rw [hP, unhide HQ] at he
      rw [hP] at Y
      subst he
      replace B := bnext B hb
      replace R := R.next hb
      replace X := X.next hb
      clear hb hP HQ
      go_wp2_with fail
      refine (c_sameInts_same _ _ _ _ _ _ [] _ X.at_ Y.at_).mono ?_
      rintro e w4 ⟨rfl, hb⟩
      replace B := bnext B hb
      replace R := R.next hb
      replace X := X.next hb
      clear hb Y
      have HPP : Hid (brCost rs y z [] = p) := HP0
      clear HP0
      go_wp2_with fail
      refine (c_breaksCost A1 _ c1 rs y z _ _ _ [] _ R.at_ X.at_ (by first | omega | simp)).mono ?_
      rintro e w5 ⟨he, hb⟩
      rw [unhide HPP] at he
      subst he
      replace B := bnext B hb
      have RA := R.at_.next hb
      clear hb X HPP R
      have I0 : OwnI (w5.alloc (.cells #[] 3)) w5.heap.size (some ⟨w5.heap.size, 0, none⟩) 0 [] := World.ownsRow_made w5 #[] 0 (Nat.le_refl _) (Nat.zero_le _) rfl
      have B0 := bof w5 (.cells #[] 3)
      go_wp2
      go_loopw [11, 12] (fun v i wr => ∃ (k : Nat) (A' : Option Addr) (c' : Nat) (es : List Int), k ≤ rs.length ∧ i = .int .i64 k ∧ v = .slice A' es.length c' ∧ es.length ≤ k ∧ OwnI wr w5.heap.size A' c' es ∧ Below w5.heap.size w5 wr) (fun _ i _ => rs.length - (intOf i).toNat)
      case atStart => exact ⟨0, _, _, [], Nat.zero_le _, rfl, rfl, Nat.le_refl _, I0, B0⟩
      case round =>
        clear I0 B0
        obtain ⟨k, A', c', es, hk, rfl, rfl, hel, I, BI⟩ := hrel
        have hbs := BI.size
        by_cases hlt : (k : Int) + 1 < (rs.length : Int)
        · have g0 : decide ((k : Int) + 1 < (rs.length : Int)) = true := decide_eq_true hlt
          go_wp2_with fail
          refine (c_MayBreak A1 _ c1 rs k _ (RA.next BI)).mono ?_
          rintro e w6 ⟨q, rfl, hb⟩
          replace I := I.next hb
          replace BI := bnext BI hb
          replace hbs := BI.size
          clear hb
          cases q
          · go_wp2
            go_roundw
            case rel => exact ⟨k + 1, A', c', es, by omega, by go_num, rfl, by omega, I, BI⟩
            case measure => simp [intOf]; omega
          · go_wp2_with (at_builtin; refine wpList_push_I (w0 := w5) (k : Int) rfl rfl I rfl rfl (by omega) hbs ?_; intro A6 c6 w6 I6 hg6 hpre; have B6 : Below w5.heap.size w5 w6 := b_own (bmk BI _) hpre (Nat.le_refl _) hg6; clear hg6 hpre I BI hbs)
            go_roundw
            case rel => exact ⟨k + 1, A6, c6, es ++ [(k : Int)], by omega, by go_num, by simp, by simp; omega, I6, B6⟩
            case measure => simp [intOf]; omega
        · have g0 : decide ((k : Int) + 1 < (rs.length : Int)) = false := decide_eq_false hlt
          obtain ⟨wP, rfl⟩ : ∃ wP : World, wP = wr := ⟨_, rfl⟩
          have PA := I.at_
          replace RA := RA.next BI
          replace B := bnext B BI
          have hel2 : es.length ≤ 70 := by omega
          have hbdP := PA.bd
          clear I BI hbs hel
          go_wp2
          clear hlt g0 hk
          go_loopw [13] (fun i wr => ∃ k : Nat, k ≤ 256 ∧ i = .int .i64 k ∧ Below wP.heap.size wP wr) (fun i _ => 256 - (intOf i).toNat)
          case atStart => exact ⟨0, Nat.zero_le _, rfl, Below.refl _ _⟩
          case round =>
            obtain ⟨k, hk, rfl, BP⟩ := hrel
            obtain ⟨wL, rfl⟩ : ∃ wL : World, wL = wr := ⟨_, rfl⟩
            have PL := PA.next BP
            have RL := RA.next BP
            have hX := maskN_le es.length
            unfold maskN at hX
            by_cases hlt : wrap64 ((2 : Int) ^ (if (es.length : Int) < 8 then (es.length : Int) else 8).toNat) ≤ (k : Int)
            · clear hX
              go_wp2_with fail
              all_goals
                refine (c_alive _).mono ?_
                rintro e w9 ⟨rfl, hb⟩
                go_wp2
                go_ret
                exact ⟨rfl, bnext (bnext B BP) hb⟩
            · have hk2 : k < 256 := by omega
              have I0 : OwnI (wL.alloc (.cells #[] 3)) wL.heap.size (some ⟨wL.heap.size, 0, none⟩) 0 [] := World.ownsRow_made wL #[] 0 (Nat.le_refl _) (Nat.zero_le _) rfl
              have BL := bof wL (.cells #[] 3)
              clear hX
              go_wp2_with fail
              all_goals
                clear hlt
                go_loopw [14, 15] (fun v i wr => ∃ (j : Nat) (AI : Option Addr) (cI : Nat) (gs : List Int), j ≤ 8 ∧ gs.length ≤ j ∧ i = .int .i64 j ∧ v = .slice AI gs.length cI ∧ OwnI wr wL.heap.size AI cI gs ∧ Below wL.heap.size wL wr) (fun _ i _ => 8 - (intOf i).toNat)
                case atStart => exact ⟨0, _, _, [], by omega, Nat.le_refl _, by go_num, rfl, I0, BL⟩
                case round =>
                  clear I0 BL
                  obtain ⟨j, AI, cI, gs, hj, hgl, rfl, rfl, I, BI⟩ := hrel
                  have hbs := BI.size
                  by_cases hjl : j < es.length
                  · by_cases hj8 : j < 8
                    · obtain ⟨bP, oP, x, rfl, hbP, hp, p0⟩ := (PL.next BI).at_ hjl
                      clear hp
                      go_wp2_with (at_builtin; refine wpList_push_I (w0 := wL) x rfl rfl I rfl rfl (by omega) hbs ?_; intro A6 c6 w6 I6 hg6 hpre; have B6 : Below wL.heap.size wL w6 := b_own (bmk BI _) hpre (Nat.le_refl _) hg6; clear hg6 hpre I BI hbs)
                      all_goals
                        go_roundw
                        case rel => first | exact ⟨j + 1, A6, c6, gs ++ [x], by omega, by simp; omega, by go_num, by simp, I6, B6⟩ | exact ⟨j + 1, AI, cI, gs, by omega, by omega, by go_num, rfl, I, BI⟩
                        case measure => simp [intOf]; omega
                    · try (exfalso; omega)
                      all_goals
                        go_wp2_with (at_builtin; refine wpList_push_I (w0 := wL) ((rs.length : Int) - 1) rfl rfl I rfl rfl (by omega) hbs ?_; intro A6 c6 w6 I6 hg6 hpre; have B6 : Below wL.heap.size wL w6 := b_own (bmk BI _) hpre (Nat.le_refl _) hg6; have J6 : IntsAt w6 A6 (gs.length + 1) c6 (gs ++ [(rs.length : Int) - 1]) := (by have h := I6.at_; rw [List.length_append] at h; exact h); clear hg6 hpre I BI hbs I6)
                        obtain ⟨fs, HFS⟩ : ∃ fs, Hid (fs = gs ++ [(rs.length : Int) - 1]) := ⟨_, rfl⟩
                        rw [← unhide HFS] at J6
                        have hc := unhide HALL fs
                        obtain ⟨q, HQQ⟩ : ∃ q, Hid (brCost rs y z fs = q) := ⟨_, rfl⟩
                        rw [unhide HQQ] at hc
                        refine (c_breaksCost A1 _ c1 rs y z _ _ _ fs _ (RL.next B6) J6 (by omega)).mono ?_
                        rintro e w8 ⟨he, hb⟩
                        rw [unhide HQQ] at he
                        subst he
                        have B8 := bnext (bnext BP B6) hb
                        clear hb J6 B6 HFS HQQ
                        have g1 : decide (0 ≤ q) = false := decide_eq_false (by omega)
                        go_wp2
                        go_roundw
                        case rel => exact ⟨k + 1, by omega, by go_num, B8⟩
                        case measure => simp [intOf]; omega
                  · try (exfalso; omega)
                    all_goals
                      go_wp2_with (at_builtin; refine wpList_push_I (w0 := wL) ((rs.length : Int) - 1) rfl rfl I rfl rfl (by omega) hbs ?_; intro A6 c6 w6 I6 hg6 hpre; have B6 : Below wL.heap.size wL w6 := b_own (bmk BI _) hpre (Nat.le_refl _) hg6; have J6 : IntsAt w6 A6 (gs.length + 1) c6 (gs ++ [(rs.length : Int) - 1]) := (by have h := I6.at_; rw [List.length_append] at h; exact h); clear hg6 hpre I BI hbs I6)
                      obtain ⟨fs, HFS⟩ : ∃ fs, Hid (fs = gs ++ [(rs.length : Int) - 1]) := ⟨_, rfl⟩
                      rw [← unhide HFS] at J6
                      have hc := unhide HALL fs
                      obtain ⟨q, HQQ⟩ : ∃ q, Hid (brCost rs y z fs = q) := ⟨_, rfl⟩
                      rw [unhide HQQ] at hc
                      refine (c_breaksCost A1 _ c1 rs y z _ _ _ fs _ (RL.next B6) J6 (by omega)).mono ?_
                      rintro e w8 ⟨he, hb⟩
                      rw [unhide HQQ] at he
                      subst he
                      have B8 := bnext (bnext BP B6) hb
                      clear hb J6 B6 HFS HQQ
                      have g1 : decide (0 ≤ q) = false := decide_eq_false (by omega)
                      go_wp2
                      go_roundw
                      case rel => exact ⟨k + 1, by omega, by go_num, B8⟩
                      case measure => simp [intOf]; omega
    | some b =>
      have hP : bestBreaks rs y z = b := by rw [bestBreaks, hq] <;> rfl
      have hS := bestBr_some_cost hq
      have hbl : b.length ≤ rs.length := hS.2.2.2.1
      obtain ⟨p, HP0⟩ : ∃ p, Hid (brCost rs y z b = p) := ⟨_, rfl⟩
      have HALL : Hid (∀ bs, brCost rs y z bs < 0 ∨ p ≤ brCost rs y z bs) := by rw [← unhide HP0]; exact hS.2.2.2.2.2.2
      have hp : 0 ≤ p := by rw [← unhide HP0]; exact hS.2.2.1
      have gp : decide (0 ≤ p) = true := decide_eq_true hp
      have HQ := hide hq
      clear hq hS
      go_wp2_with fail
      refine (c_bestBreaks A1 _ c1 rs y z _ R.at_).mono ?_
      rintro e w2 ⟨A2, c2, he, X, hb⟩
      rw [hP, unhide HQ] at he
      rw [hP] at X
      subst he
      replace B := bnext B hb
      replace R := R.next hb
      clear hb
      go_wp2_with fail
      refine (c_bestBreaks' A1 _ c1 rs y z _ R.at_).mono ?_
      rintro e w3 ⟨A3, c3, he, Y, hb⟩
      rw [hP, unhide HQ] at he
      rw [hP] at Y
      subst he
      replace B := bnext B hb
      replace R := R.next hb
      replace X := X.next hb
      clear hb hP HQ
      go_wp2_with fail
      refine (c_sameInts_same _ _ _ _ _ _ b _ X.at_ Y.at_).mono ?_
      rintro e w4 ⟨rfl, hb⟩
      replace B := bnext B hb
      replace R := R.next hb
      replace X := X.next hb
      clear hb Y
      have HPP : Hid (brCost rs y z b = p) := HP0
      clear HP0
      go_wp2_with fail
      refine (c_breaksCost A1 _ c1 rs y z _ _ _ b _ R.at_ X.at_ (by first | omega | simp)).mono ?_
      rintro e w5 ⟨he, hb⟩
      rw [unhide HPP] at he
      subst he
      replace B := bnext B hb
      have RA := R.at_.next hb
      clear hb X HPP R
      have I0 : OwnI (w5.alloc (.cells #[] 3)) w5.heap.size (some ⟨w5.heap.size, 0, none⟩) 0 [] := World.ownsRow_made w5 #[] 0 (Nat.le_refl _) (Nat.zero_le _) rfl
      have B0 := bof w5 (.cells #[] 3)
      go_wp2
      go_loopw [11, 12] (fun v i wr => ∃ (k : Nat) (A' : Option Addr) (c' : Nat) (es : List Int), k ≤ rs.length ∧ i = .int .i64 k ∧ v = .slice A' es.length c' ∧ es.length ≤ k ∧ OwnI wr w5.heap.size A' c' es ∧ Below w5.heap.size w5 wr) (fun _ i _ => rs.length - (intOf i).toNat)
      case atStart => exact ⟨0, _, _, [], Nat.zero_le _, rfl, rfl, Nat.le_refl _, I0, B0⟩
      case round =>
        clear I0 B0
        obtain ⟨k, A', c', es, hk, rfl, rfl, hel, I, BI⟩ := hrel
        have hbs := BI.size
        by_cases hlt : (k : Int) + 1 < (rs.length : Int)
        · have g0 : decide ((k : Int) + 1 < (rs.length : Int)) = true := decide_eq_true hlt
          go_wp2_with fail
          refine (c_MayBreak A1 _ c1 rs k _ (RA.next BI)).mono ?_
          rintro e w6 ⟨q, rfl, hb⟩
          replace I := I.next hb
          replace BI := bnext BI hb
          replace hbs := BI.size
          clear hb
          cases q
          · go_wp2
            go_roundw
            case rel => exact ⟨k + 1, A', c', es, by omega, by go_num, rfl, by omega, I, BI⟩
            case measure => simp [intOf]; omega
          · go_wp2_with (at_builtin; refine wpList_push_I (w0 := w5) (k : Int) rfl rfl I rfl rfl (by omega) hbs ?_; intro A6 c6 w6 I6 hg6 hpre; have B6 : Below w5.heap.size w5 w6 := b_own (bmk BI _) hpre (Nat.le_refl _) hg6; clear hg6 hpre I BI hbs)
            go_roundw
            case rel => exact ⟨k + 1, A6, c6, es ++ [(k : Int)], by omega, by go_num, by simp, by simp; omega, I6, B6⟩
            case measure => simp [intOf]; omega
        · have g0 : decide ((k : Int) + 1 < (rs.length : Int)) = false := decide_eq_false hlt
          obtain ⟨wP, rfl⟩ : ∃ wP : World, wP = wr := ⟨_, rfl⟩
          have PA := I.at_
          replace RA := RA.next BI
          replace B := bnext B BI
          have hel2 : es.length ≤ 70 := by omega
          have hbdP := PA.bd
          clear I BI hbs hel
          go_wp2
          clear hlt g0 hk
          go_loopw [13] (fun i wr => ∃ k : Nat, k ≤ 256 ∧ i = .int .i64 k ∧ Below wP.heap.size wP wr) (fun i _ => 256 - (intOf i).toNat)
          case atStart => exact ⟨0, Nat.zero_le _, rfl, Below.refl _ _⟩
          case round =>
            obtain ⟨k, hk, rfl, BP⟩ := hrel
            obtain ⟨wL, rfl⟩ : ∃ wL : World, wL = wr := ⟨_, rfl⟩
            have PL := PA.next BP
            have RL := RA.next BP
            have hX := maskN_le es.length
            unfold maskN at hX
            by_cases hlt : wrap64 ((2 : Int) ^ (if (es.length : Int) < 8 then (es.length : Int) else 8).toNat) ≤ (k : Int)
            · clear hX
              go_wp2_with fail
              all_goals
                refine (c_alive _).mono ?_
                rintro e w9 ⟨rfl, hb⟩
                go_wp2
                go_ret
                exact ⟨rfl, bnext (bnext B BP) hb⟩
            · have hk2 : k < 256 := by omega
              have I0 : OwnI (wL.alloc (.cells #[] 3)) wL.heap.size (some ⟨wL.heap.size, 0, none⟩) 0 [] := World.ownsRow_made wL #[] 0 (Nat.le_refl _) (Nat.zero_le _) rfl
              have BL := bof wL (.cells #[] 3)
              clear hX
              go_wp2_with fail
              all_goals
                clear hlt
                go_loopw [14, 15] (fun v i wr => ∃ (j : Nat) (AI : Option Addr) (cI : Nat) (gs : List Int), j ≤ 8 ∧ gs.length ≤ j ∧ i = .int .i64 j ∧ v = .slice AI gs.length cI ∧ OwnI wr wL.heap.size AI cI gs ∧ Below wL.heap.size wL wr) (fun _ i _ => 8 - (intOf i).toNat)
                case atStart => exact ⟨0, _, _, [], by omega, Nat.le_refl _, by go_num, rfl, I0, BL⟩
                case round =>
                  clear I0 BL
                  obtain ⟨j, AI, cI, gs, hj, hgl, rfl, rfl, I, BI⟩ := hrel
                  have hbs := BI.size
                  by_cases hjl : j < es.length
                  · by_cases hj8 : j < 8
                    · obtain ⟨bP, oP, x, rfl, hbP, hp, p0⟩ := (PL.next BI).at_ hjl
                      clear hp
                      go_wp2_with (at_builtin; refine wpList_push_I (w0 := wL) x rfl rfl I rfl rfl (by omega) hbs ?_; intro A6 c6 w6 I6 hg6 hpre; have B6 : Below wL.heap.size wL w6 := b_own (bmk BI _) hpre (Nat.le_refl _) hg6; clear hg6 hpre I BI hbs)
                      all_goals
                        go_roundw
                        case rel => first | exact ⟨j + 1, A6, c6, gs ++ [x], by omega, by simp; omega, by go_num, by simp, I6, B6⟩ | exact ⟨j + 1, AI, cI, gs, by omega, by omega, by go_num, rfl, I, BI⟩
                        case measure => simp [intOf]; omega
                    · try (exfalso; omega)
                      all_goals
                        go_wp2_with (at_builtin; refine wpList_push_I (w0 := wL) ((rs.length : Int) - 1) rfl rfl I rfl rfl (by omega) hbs ?_; intro A6 c6 w6 I6 hg6 hpre; have B6 : Below wL.heap.size wL w6 := b_own (bmk BI _) hpre (Nat.le_refl _) hg6; have J6 : IntsAt w6 A6 (gs.length + 1) c6 (gs ++ [(rs.length : Int) - 1]) := (by have h := I6.at_; rw [List.length_append] at h; exact h); clear hg6 hpre I BI hbs I6)
                        obtain ⟨fs, HFS⟩ : ∃ fs, Hid (fs = gs ++ [(rs.length : Int) - 1]) := ⟨_, rfl⟩
                        rw [← unhide HFS] at J6
                        have hc := unhide HALL fs
                        have HRES : Hid (brCost rs y z fs < 0 ∨ (0 ≤ brCost rs y z fs ∧ p ≤ brCost rs y z fs)) := by
                          rcases hc with h | h
                          · exact .inl h
                          · exact .inr ⟨by omega, h⟩
                        clear hc
                        obtain ⟨q, HQQ⟩ : ∃ q, Hid (brCost rs y z fs = q) := ⟨_, rfl⟩
                        have hres := unhide HRES
                        rw [unhide HQQ] at hres
                        clear HRES
                        refine (c_breaksCost A1 _ c1 rs y z _ _ _ fs _ (RL.next B6) J6 (by omega)).mono ?_
                        rintro e w8 ⟨he, hb⟩
                        rw [unhide HQQ] at he
                        subst he
                        have B8 := bnext (bnext BP B6) hb
                        clear hb J6 B6 HFS HQQ
                        rcases hres with hc | ⟨hc, hpq⟩
                        · have g1 : decide (0 ≤ q) = false := decide_eq_false (by omega)
                          go_wp2
                          go_roundw
                          case rel => exact ⟨k + 1, by omega, by go_num, B8⟩
                          case measure => simp [intOf]; omega
                        · have g1 : decide (0 ≤ q) = true := decide_eq_true hc
                          have g2 : decide (q < p) = false := decide_eq_false (by omega)
                          go_wp2
                          go_roundw
                          case rel => exact ⟨k + 1, by omega, by go_num, B8⟩
                          case measure => simp [intOf]; omega
                  · try (exfalso; omega)
                    all_goals
                      go_wp2_with (at_builtin; refine wpList_push_I (w0 := wL) ((rs.length : Int) - 1) rfl rfl I rfl rfl (by omega) hbs ?_; intro A6 c6 w6 I6 hg6 hpre; have B6 : Below wL.heap.size wL w6 := b_own (bmk BI _) hpre (Nat.le_refl _) hg6; have J6 : IntsAt w6 A6 (gs.length + 1) c6 (gs ++ [(rs.length : Int) - 1]) := (by have h := I6.at_; rw [List.length_append] at h; exact h); clear hg6 hpre I BI hbs I6)
                      obtain ⟨fs, HFS⟩ : ∃ fs, Hid (fs = gs ++ [(rs.length : Int) - 1]) := ⟨_, rfl⟩
                      rw [← unhide HFS] at J6
                      have hc := unhide HALL fs
                      have HRES : Hid (brCost rs y z fs < 0 ∨ (0 ≤ brCost rs y z fs ∧ p ≤ brCost rs y z fs)) := by
                        rcases hc with h | h
                        · exact .inl h
                        · exact .inr ⟨by omega, h⟩
                      clear hc
                      obtain ⟨q, HQQ⟩ : ∃ q, Hid (brCost rs y z fs = q) := ⟨_, rfl⟩
                      have hres := unhide HRES
                      rw [unhide HQQ] at hres
                      clear HRES
                      refine (c_breaksCost A1 _ c1 rs y z _ _ _ fs _ (RL.next B6) J6 (by omega)).mono ?_
                      rintro e w8 ⟨he, hb⟩
                      rw [unhide HQQ] at he
                      subst he
                      have B8 := bnext (bnext BP B6) hb
                      clear hb J6 B6 HFS HQQ
                      rcases hres with hc | ⟨hc, hpq⟩
                      · have g1 : decide (0 ≤ q) = false := decide_eq_false (by omega)
                        go_wp2
                        go_roundw
                        case rel => exact ⟨k + 1, by omega, by go_num, B8⟩
                        case measure => simp [intOf]; omega
                      · have g1 : decide (0 ≤ q) = true := decide_eq_true hc
                        have g2 : decide (q < p) = false := decide_eq_false (by omega)
                        go_wp2
                        go_roundw
                        case rel => exact ⟨k + 1, by omega, by go_num, B8⟩
                        case measure => simp [intOf]; omega
end Go.Proofs.Ytlklkloadefihaa
