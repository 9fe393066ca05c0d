/- badness, looks and costs of lines: contracts. No condition. -/
import Derived.Test.YtadcbigioldejaaLineP
import Derived.Test.YtadcbigioldejaaMin
import Derived.WalkArith
namespace Go.Proofs.Ytadcbigioldejaa
open Go.RowKit
set_option linter.unusedVariables false

theorem mul_bd {a b A B : Int} (ha : 0 ≤ a ∧ a ≤ A) (hb : 0 ≤ b ∧ b ≤ B) : 0 ≤ a * b ∧ a * b ≤ A * B :=
  ⟨Int.mul_nonneg ha.1 hb.1, Int.mul_le_mul ha.2 hb.2 hb.1 (by omega)⟩
structure Cube (need room : Int) : Prop where
  n1 : 0 ≤ 100 * need ∧ 100 * need ≤ 10000000
  n2 : 0 ≤ 100 * need * need ∧ 100 * need * need ≤ 1000000000000
  n3 : 0 ≤ 100 * need * need * need ∧ 100 * need * need * need ≤ 100000000000000000
  r2 : 1 ≤ room * room ∧ room * room ≤ 10000000000
  r3 : 1 ≤ room * room * room ∧ room * room * room ≤ 1000000000000000
  q : 0 ≤ (100 * need * need * need).tdiv (room * room * room) ∧ (100 * need * need * need).tdiv (room * room * room) ≤ 100000000000000000
  e : (100 * need * need * need).tdiv (room * room * room) = 100 * need * need * need / (room * room * room)
theorem cube {need room : Int} (h : 0 ≤ need ∧ need ≤ 100000) (hr : 1 ≤ room ∧ room ≤ 100000) : Cube need room := by
  have n1 : 0 ≤ 100 * need ∧ 100 * need ≤ 10000000 := by omega
  have n2 := mul_bd n1 h
  have n3 := mul_bd n2 h
  have r2 : 1 ≤ room * room ∧ room * room ≤ 10000000000 := by
    have a := mul_bd (a := room) (b := room) ⟨by omega, hr.2⟩ ⟨by omega, hr.2⟩
    have b := Int.mul_le_mul hr.1 hr.1 (by omega) (by omega)
    omega
  have r3 : 1 ≤ room * room * room ∧ room * room * room ≤ 1000000000000000 := by
    have a := mul_bd (a := room * room) (b := room) ⟨by omega, r2.2⟩ ⟨by omega, hr.2⟩
    have b := Int.mul_le_mul r2.1 hr.1 (by omega) (by omega)
    omega
  have e : (100 * need * need * need).tdiv (room * room * room) = 100 * need * need * need / (room * room * room) := Int.tdiv_eq_ediv_of_nonneg n3.1
  have q0 : 0 ≤ 100 * need * need * need / (room * room * room) := Int.ediv_nonneg n3.1 (by omega)
  have q1 : 100 * need * need * need / (room * room * room) ≤ 100 * need * need * need := Int.ediv_le_self _ n3.1
  exact ⟨n1, by omega, by omega, r2, r3, by rw [e]; omega, e⟩
theorem badB_big {need room : Int} (hr : 1 ≤ room) (h : 5 * room < need) : badB need room = 10000 := by
  unfold badB
  rw [if_neg (by omega), if_neg (by omega)]
  split
  · rfl
  · have r2 : 1 ≤ room * room := by
      have := Int.mul_le_mul hr hr (by omega) (by omega); omega
    have r3 : 1 ≤ room * room * room := by
      have := Int.mul_le_mul r2 hr (by omega) (by omega); omega
    have a : 10000 ≤ 100 * need * need * need / (room * room * room) := by
      rw [Int.le_ediv_iff_mul_le (by omega)]
      have h5 : 5 * room ≤ need := by omega
      have s1 : 5 * room * (5 * room) ≤ need * need := Int.mul_le_mul h5 h5 (by omega) (by omega)
      have s2 : 5 * room * (5 * room) * (5 * room) ≤ need * need * need := Int.mul_le_mul s1 h5 (by omega) (Int.mul_nonneg (by omega) (by omega))
      have e1 : 5 * room * (5 * room) * (5 * room) = 125 * (room * room * room) := by
        simp only [Int.mul_assoc, Int.mul_left_comm room 5]; omega
      have e2 : 100 * need * need * need = 100 * (need * need * need) := by simp only [Int.mul_assoc]
      omega
    omega

set_option maxHeartbeats 800000 in
theorem c_badness (need room : Int) (h : 0 ≤ need ∧ need ≤ 100000) (hr : 0 ≤ room ∧ room ≤ 100000) (w : World) :
    Calls Try.prog 56 #[.int .i64 need, .int .i64 room] w fun e w' => e = .returned (.int .i64 (badB need room)) ∧ w = w' := by
  obtain ⟨h0, h1⟩ := h
  obtain ⟨r0, r1⟩ := hr
  by_cases hn : need = 0
  · have H : Hid (badB need room = 0) := by show _ = _; simp [badB, hn]
    subst hn
    go_enter Try.func56, Try.ntmps56
    go_wp2
    go_ret
    exact ⟨by rw [unhide H] <;> rfl, rfl⟩
  · by_cases hm : room = 0
    · have H : Hid (badB need room = 10000) := by show _ = _; simp [badB, hn, hm]
      subst hm
      go_enter Try.func56, Try.ntmps56
      go_wp2
      go_ret
      exact ⟨by rw [unhide H] <;> rfl, rfl⟩
    · by_cases hb : 10 * room < need
      · have H : Hid (badB need room = 10000) := by show _ = _; simp [badB, hn, hm, hb]
        go_enter Try.func56, Try.ntmps56
        go_wp2
        go_ret
        exact ⟨by rw [unhide H] <;> rfl, rfl⟩
      · obtain ⟨n1, n2, n3, r2, r3, q, e⟩ := cube (need := need) (room := room) ⟨h0, h1⟩ ⟨by omega, r1⟩
        have H : Hid (badB need room = min 10000 ((100 * need * need * need).tdiv (room * room * room))) := by
          show _ = _; rw [e]; unfold badB; rw [if_neg hn, if_neg hm, if_neg hb]
        have E := hide e
        have hz : ¬ room * room * room = 0 := by omega
        clear e
        go_enter Try.func56, Try.ntmps56
        go_wp2_with (refine wpList_min rfl rfl rfl rfl ?_)
        go_ret
        exact ⟨by rw [unhide H] <;> rfl, rfl⟩
set_option maxHeartbeats 800000 in
theorem c_badness' (need room : Int) (h : 0 ≤ need ∧ need ≤ 100000) (hr : 0 ≤ room ∧ room ≤ 100000) (w : World) :
    Calls Try.prog 62 #[.int .i64 need, .int .i64 room] w fun e w' => e = .returned (.int .i64 (badB need room)) ∧ w = w' := by
  have i1 : inB need 0 100000 = true := inB_iff.2 h
  have i2 : inB room 0 100000 = true := inB_iff.2 hr
  obtain ⟨h0, h1⟩ := h
  obtain ⟨r0, r1⟩ := hr
  by_cases hn : need = 0
  · have H : Hid (badB need room = 0) := by show _ = _; simp [badB, hn]
    subst hn
    go_enter Try.func62, Try.ntmps62
    go_wp2_with (go_at_call 37; refine (c_l1In _ _ _ _).mono ?_; rintro e w' ⟨rfl, rfl⟩)
    go_ret
    exact ⟨by rw [unhide H] <;> rfl, rfl⟩
  · by_cases hm : room = 0
    · have H : Hid (badB need room = 10000) := by show _ = _; simp [badB, hn, hm]
      subst hm
      go_enter Try.func62, Try.ntmps62
      go_wp2_with (go_at_call 37; refine (c_l1In _ _ _ _).mono ?_; rintro e w' ⟨rfl, rfl⟩)
      go_ret
      exact ⟨by rw [unhide H] <;> rfl, rfl⟩
    · by_cases hb : 5 * room < need
      · have H : Hid (badB need room = 10000) := badB_big (by omega) hb
        go_enter Try.func62, Try.ntmps62
        go_wp2_with (go_at_call 37; refine (c_l1In _ _ _ _).mono ?_; rintro e w' ⟨rfl, rfl⟩)
        go_ret
        exact ⟨by rw [unhide H] <;> rfl, rfl⟩
      · obtain ⟨n1, n2, n3, r2, r3, q, e⟩ := cube (need := need) (room := room) ⟨h0, h1⟩ ⟨by omega, r1⟩
        have H : Hid (badB need room = min 10000 ((100 * need * need * need).tdiv (room * room * room))) := by
          show _ = _; rw [e]; unfold badB; rw [if_neg hn, if_neg hm, if_neg (by omega)]
        have g1 : (room == 0) = false := by simpa using hm
        have g2 : decide (5 * room < need) = false := by simpa using hb
        have E := hide e
        have hz : ¬ room * room * room = 0 := by omega
        clear e
        go_enter Try.func62, Try.ntmps62
        go_wp2_with (first | (refine wpList_min rfl rfl rfl rfl ?_) | (go_at_call 37; refine (c_l1In _ _ _ _).mono ?_; rintro e w' ⟨rfl, rfl⟩))
        go_ret
        exact ⟨by rw [unhide H] <;> rfl, rfl⟩
set_option maxHeartbeats 400000 in
theorem c_looksOf (st : Bool) (bad : Int) (h : 0 ≤ bad ∧ bad ≤ 10000) (w : World) :
    Calls Try.prog 65 #[.bool st, .int .i64 bad] w fun e w' => e = .returned (.int .i64 (looksOf st bad)) ∧ w = w' := by
  have i1 : inB bad 0 10000 = true := inB_iff.2 h
  by_cases h1 : bad ≤ 12 <;> by_cases h2 : bad < 100 <;> cases st
  all_goals
    go_enter Try.func65, Try.ntmps65
    go_wp2_with (go_at_call 64; refine (c_isBad _ _).mono ?_; rintro e w' ⟨rfl, rfl⟩)
    go_ret
    exact ⟨by simp [looksOf, *] <;> omega, rfl⟩
set_option maxHeartbeats 400000 in
theorem c_looksOf' (st : Bool) (bad : Int) (h : 0 ≤ bad ∧ bad ≤ 10000) (w : World) :
    Calls Try.prog 42 #[.bool st, .int .i64 bad] w fun e w' => e = .returned (.int .i64 (looksOf st bad)) ∧ w = w' := by
  have i1 : inB bad 0 10000 = true := inB_iff.2 h
  by_cases h1 : bad ≤ 12 <;> by_cases h2 : bad < 100 <;> cases st
  all_goals
    go_enter Try.func42, Try.ntmps42
    go_wp2_with (go_at_call 37; refine (c_l1In _ _ _ _).mono ?_; rintro e w' ⟨rfl, rfl⟩)
    go_ret
    exact ⟨by simp [looksOf, *] <;> omega, rfl⟩
set_option maxHeartbeats 400000 in
theorem c_costOf (bad cost : Int) (h : 0 ≤ bad ∧ bad ≤ 10000) (hc : isCostB cost = true) (w : World) :
    Calls Try.prog 66 #[.int .i64 bad, .int .i64 cost] w fun e w' => e = .returned (.int .i64 (costOf bad cost)) ∧ w = w' := by
  have i1 : inB bad 0 10000 = true := inB_iff.2 h
  have hb := costOf_bd h hc
  have h1 := mul_bd (a := 10 + bad) (b := 10 + bad) (A := 10010) (B := 10010) ⟨by omega, by omega⟩ ⟨by omega, by omega⟩
  unfold costOf at hb ⊢
  by_cases hm : cost = -10000
  · subst hm
    go_enter Try.func66, Try.ntmps66
    go_wp2_with (first | (go_at_call 64; refine (c_isBad _ _).mono ?_; rintro e w' ⟨rfl, rfl⟩) | (go_at_call 77; refine (c_isCost _ _).mono ?_; rintro e w' ⟨rfl, rfl⟩))
    go_ret
    exact ⟨by simp, rfl⟩
  · rw [if_neg hm] at hb
    have h2 : 0 ≤ cost * cost ∧ cost * cost ≤ 100000000 := by
      have : 0 ≤ cost ∧ cost ≤ 10000 := by
        simp only [isCostB, Bool.or_eq_true, inB_iff] at hc
        rcases hc with h | h
        · exact h
        · simp at h; exact absurd h hm
      exact mul_bd this this
    go_enter Try.func66, Try.ntmps66
    go_wp2_with (first | (go_at_call 64; refine (c_isBad _ _).mono ?_; rintro e w' ⟨rfl, rfl⟩) | (go_at_call 77; refine (c_isCost _ _).mono ?_; rintro e w' ⟨rfl, rfl⟩))
    go_ret
    exact ⟨by simp [*], rfl⟩
set_option maxHeartbeats 400000 in
theorem c_costOf' (bad cost : Int) (h : 0 ≤ bad ∧ bad ≤ 10000) (hc : isCostB cost = true) (w : World) :
    Calls Try.prog 43 #[.int .i64 bad, .int .i64 cost] w fun e w' => e = .returned (.int .i64 (costOf bad cost)) ∧ w = w' := by
  have i1 : inB bad 0 10000 = true := inB_iff.2 h
  have hb := costOf_bd h hc
  have h1 := mul_bd (a := 10 + bad) (b := 10 + bad) (A := 10010) (B := 10010) ⟨by omega, by omega⟩ ⟨by omega, by omega⟩
  unfold costOf at hb ⊢
  by_cases hm : cost = -10000
  · subst hm
    have i2 : inB (-10000) 0 10000 = false := by decide
    go_enter Try.func43, Try.ntmps43
    go_wp2_with (go_at_call 37; refine (c_l1In _ _ _ _).mono ?_; rintro e w' ⟨rfl, rfl⟩)
    go_ret
    exact ⟨by simp, rfl⟩
  · rw [if_neg hm] at hb
    have hc' : 0 ≤ cost ∧ cost ≤ 10000 := by
      simp only [isCostB, Bool.or_eq_true, inB_iff] at hc
      rcases hc with h | h
      · exact h
      · simp at h; exact absurd h hm
    have i2 : inB cost 0 10000 = true := inB_iff.2 hc'
    have h2 : 0 ≤ cost * cost ∧ cost * cost ≤ 100000000 := mul_bd hc' hc'
    by_cases hz : cost = 0
    · subst hz
      go_enter Try.func43, Try.ntmps43
      go_wp2_with (go_at_call 37; refine (c_l1In _ _ _ _).mono ?_; rintro e w' ⟨rfl, rfl⟩)
      go_ret
      exact ⟨by simp, rfl⟩
    · go_enter Try.func43, Try.ntmps43
      go_wp2_with (go_at_call 37; refine (c_l1In _ _ _ _).mono ?_; rintro e w' ⟨rfl, rfl⟩)
      go_ret
      exact ⟨by simp [*], rfl⟩
end Go.Proofs.Ytadcbigioldejaa
