/- The reference's lines: whether they are possible, the sum of their glues: contracts. No condition. -/
import Derived.Test.YtadcbigioldejaaLine3
import Derived.Test.YtadcbigioldejaaAdd
import Derived.Deep.RegionLaw
namespace Go.Proofs.Ytadcbigioldejaa
open Go.RowKit
set_option linter.unusedVariables false

theorem lineGls_take {rs : List Item} {s k : Nat} (hs : s ≤ k) (h : (itAt rs k).kind ≠ 3) : lineGls rs s (k + 1) = lineGls rs s k ++ [(itAt rs k).gl] := by simp [lineGls, idxs_take hs h]
theorem lineGls_skip {rs : List Item} {s k : Nat} (h : (itAt rs k).kind = 3) : lineGls rs s (k + 1) = lineGls rs s k := by simp [lineGls, idxs_skip h]
theorem lineGls_len (rs : List Item) (s k : Nat) : (lineGls rs s k).length ≤ k := by have := idxs_len rs s k; simp [lineGls]; omega
theorem lineOk_not {rs : List Item} {after to : Int} (h : (after ≠ -1 ∧ mayB rs after = false) ∨ mayB rs to = false ∨ to ≤ after) : lineOk rs after to = false := by
  rcases h with ⟨h, h'⟩ | h | h
  · simp [lineOk, h, h']
  · simp [lineOk, h]
  · simp [lineOk]; intros; omega
theorem mayB_neg {rs : List Item} {k : Int} (h : k < 0) : mayB rs k = false := by simp [mayB]; omega
theorem lineOk_parts {rs : List Item} {after to : Int} (k0 m : Nat) (ha : after + 1 = k0) (hm : to = m) (hkm : k0 ≤ m) : lineOk rs after to = ((decide (after = -1) || mayB rs after) && (breakB rs m && (decide (startOf rs k0 ≤ m) && noForced rs k0 m))) := by
  have e1 : (after + 1).toNat = k0 := by omega
  have e2 : decide (after < to) = true := by simp; omega
  have e3 : decide ((startOf rs k0 : Int) ≤ to) = decide (startOf rs k0 ≤ m) := by apply decide_eq_decide.2; omega
  subst hm
  rw [lineOk, e1, e2, e3, mayB_nat]; simp

theorem c_l5Break_i (A : Option Addr) (n c : Nat) (rs : List Item) (k : Int) (m : Nat) (hk : k = m) (w : World) (hR : ItemsAt w A n c rs) (hm : m < n) :
    Calls Try.prog 52 #[.slice A n c, .int .i64 k] w fun e w' => e = .returned (.bool (breakB rs m)) ∧ Below w.heap.size w w' := by
  subst hk; exact c_l5Break A n c rs m w hR hm
set_option maxRecDepth 100000 in
set_option maxHeartbeats 3200000 in
theorem c_l7Line (A : Option Addr) (n c : Nat) (rs : List Item) (after to : Int) (w : World) (hR : ItemsAt w A n c rs) (hval : rs.all itemValid = true) (hn60 : n ≤ 60) :
    Calls Try.prog 38 #[.slice A n c, .int .i64 after, .int .i64 to] w fun e w' => e = .returned (.bool (lineOk rs after to)) ∧ Below w.heap.size w w' := by
  have hlen := hR.len
  have hbd := hR.bd
  have HVAL := hide hval
  clear hval
  cases hin : inB to 0 ((n : Int) - 1)
  · have H : Hid (lineOk rs after to = false) := lineOk_not (.inr (.inl (mayB_out hlen hin)))
    clear hlen
    go_enter Try.func38, Try.ntmps38
    go_wp2_with fail
    refine (c_l1In _ _ _ _).mono ?_
    rintro e w1 ⟨rfl, rfl⟩
    generalize inB after (-1) _ = b1
    cases b1
    all_goals
      go_wp2_with (go_at_call 37; refine (c_l1In _ _ _ _).mono ?_; rintro e w' ⟨rfl, rfl⟩)
      go_ret
      exact ⟨by rw [unhide H] <;> rfl, Below.refl _ _⟩
  · obtain ⟨h0, h1⟩ := inB_iff.1 hin
    obtain ⟨m, rfl⟩ := Int.eq_ofNat_of_zero_le h0
    have hmn : m < n := by omega
    cases hin2 : inB after (-1) ((m : Int) - 1)
    · have H : Hid (lineOk rs after m = false) := by
        rw [inB_not] at hin2
        rcases hin2 with h | h
        · exact lineOk_not (.inl ⟨by omega, mayB_neg (by omega)⟩)
        · exact lineOk_not (.inr (.inr (by omega)))
      clear hlen
      go_enter Try.func38, Try.ntmps38
      go_wp2_with (go_at_call 37; refine (c_l1In _ _ _ _).mono ?_; rintro e w' ⟨rfl, rfl⟩)
      go_ret
      exact ⟨by rw [unhide H] <;> rfl, Below.refl _ _⟩
    · obtain ⟨g0, g1⟩ := inB_iff.1 hin2
      obtain ⟨k0, hk0⟩ := Int.eq_ofNat_of_zero_le (show 0 ≤ after + 1 by omega)
      have hkm : k0 ≤ m := by omega
      have HP := hide (lineOk_parts (rs := rs) k0 m hk0 rfl hkm)
      have HLEN := hide hlen
      clear hlen
      go_enter Try.func38, Try.ntmps38
      go_wp2_with (go_at_call 37; refine (c_l1In _ _ _ _).mono ?_; rintro e w' ⟨rfl, rfl⟩)
      refine (c_l5Break A n c rs m _ hR hmn).mono ?_
      rintro e w1 ⟨rfl, hb1⟩
      cases hbm : breakB rs m
      · have H : Hid (lineOk rs after m = false) := by show _ = _; rw [unhide HP, hbm]; simp
        clear HP hbm
        go_wp2
        go_ret
        exact ⟨by rw [unhide H] <;> rfl, hb1⟩
      · rw [hbm, Bool.true_and] at HP
        clear hbm
        by_cases hz : after = -1
        case' pos =>
          replace HP : Hid (lineOk rs after m = (decide (startOf rs k0 ≤ m) && noForced rs k0 m)) := by show _ = _; rw [unhide HP, hz]; simp
          have hj0 : decide (after < 0) = true := by simp; omega
          clear hz
          go_wp2_with fail
        case' neg =>
          have hj0 : decide (after < 0) = false := by simp; omega
          go_wp2_with fail
          obtain ⟨j, hj⟩ := Int.eq_ofNat_of_zero_le (show 0 ≤ after by omega)
          refine (c_l5Break_i A n c rs after j hj _ (hR.next hb1) (by omega)).mono ?_
          rintro e w2 ⟨rfl, hb2⟩
          replace hb1 := bnext hb1 hb2
          clear hb2
          cases hbj : breakB rs j
          case' false =>
            have H : Hid (lineOk rs after m = false) := by
              show _ = _; rw [unhide HP, hj, mayB_nat, hbj]
              have : decide ((j : Int) = -1) = false := by simp
              rw [this]; rfl
            clear HP hbj hj
            go_wp2
            go_ret
            exact ⟨by rw [unhide H] <;> rfl, hb1⟩
          case' true =>
            replace HP : Hid (lineOk rs after m = (decide (startOf rs k0 ≤ m) && noForced rs k0 m)) := by show _ = _; rw [unhide HP, hj, mayB_nat, hbj]; simp
            clear hbj hz hj
            go_wp2_with fail
        all_goals
          rename World => wA
          rename Below w.heap.size w wA => hbA
          refine (c_l5Start A n c rs after k0 hk0 (by omega) _ (hR.next hbA) (unhide HVAL)).mono ?_
          rintro e wB ⟨rfl, hbB⟩
          replace hbB := bnext hbA hbB
          clear hbA
          obtain ⟨s, HS⟩ : ∃ s, Hid (startOf rs k0 = s) := ⟨_, rfl⟩
          rw [unhide HS] at HP ⊢
          by_cases hsm : s ≤ m
          case' neg =>
            have hg : decide (s ≤ m) = false := by simpa using hsm
            have H : Hid (lineOk rs after m = false) := by show _ = _; rw [unhide HP, hg]; rfl
            clear HP HS
            go_wp2
            go_ret
            exact ⟨by rw [unhide H] <;> rfl, hbB⟩
          case' pos =>
            have hg : decide (s ≤ m) = true := by simpa using hsm
            rw [hg, Bool.true_and] at HP
            clear HS
            go_wp2_with fail
            refine (c_l7Forced A n c rs after k0 m hk0 hkm hmn _ (hR.next hbB)).mono ?_
            rintro e wC ⟨rfl, hbC⟩
            replace hbC := bnext hbB hbC
            rw [← unhide HP]
            clear HP hbB
            go_wp2
            go_ret
            exact ⟨rfl, hbC⟩
end Go.Proofs.Ytadcbigioldejaa
