/- The walk of the law FnLineIsFull: for every code it returns true and changes nothing that was there. No condition. -/
import Derived.Test.YtlklkloadefihaaFullP
import Derived.Test.YtlklkloadefihaaDrawE
import Derived.Test.YtlklkloadefihaaMa
namespace Go.Proofs.Ytlklkloadefihaa
open Go.RowKit
set_option linter.unusedVariables false

set_option maxRecDepth 100000 in
set_option maxHeartbeats 6400000 in
theorem w_FnLineIsFull (A : Option Addr) (n c : Nat) (xs : List Int) (w : World) (h : CodeAt w A n c xs) :
    Calls Try.prog 5 #[.slice A n c] w fun e w' => e = .returned (.bool true) ∧ Below w.heap.size w w' := by
  have hcm := h.2
  unfold maxLen at hcm
  by_cases hbig : 1048576 < n
  · go_enter Try.func5, Try.ntmps5
    go_wp2
    go_ret
    exact ⟨rfl, Below.refl _ _⟩
  · go_enter Try.func5, Try.ntmps5
    go_wp2_with fail
    refine (c_drawLineIsFull A n c xs _ h).mono ?_
    rintro e w1 ⟨A1, c1, rs, a, t, y, rfl, hl1, R, B⟩
    have hbdR := R.at_.bd
    have RA := R.at_
    clear hbig hcm h R
    obtain ⟨full, HF⟩ : ∃ full, Hid (isFull rs a t y = full) := ⟨_, rfl⟩
    obtain ⟨gw, gst, gsh, god, HG⟩ : ∃ gw gst gsh god, Hid (pGlOf rs a t = ⟨gw, gst, gsh, god⟩) := ⟨_, _, _, _, rfl⟩
    go_wp2_with fail
    refine (c_lineIsFull A1 _ c1 rs a t y _ RA).mono ?_
    rintro e w2 ⟨he, hb⟩
    rw [unhide HF] at he
    subst he
    replace B := bnext B hb
    replace RA := RA.next hb
    clear hb
    go_wp2_with fail
    refine (c_lineIsFull' A1 _ c1 rs a t y _ RA).mono ?_
    rintro e w3 ⟨he, hb⟩
    rw [unhide HF] at he
    subst he
    replace B := bnext B hb
    replace RA := RA.next hb
    clear hb
    have gb : (full != full) = false := by simp
    cases hk : okL rs a t
    · have hfull : full = false := by rw [← unhide HF]; simp [isFull, okS, hk]
      subst hfull
      have HK := hide hk
      clear hk HF
      go_wp2_with fail
      refine (c_lineGlue A1 _ c1 rs a t _ RA).mono ?_
      rintro e w4 ⟨he, hb⟩
      rw [unhide HG, unhide HK] at he
      subst he
      replace B := bnext B hb
      clear hb RA HG HK gb
      have BK := Blk.new w4 29 #[.int .i64 gw, .int .i64 gst, .int .i64 gsh, .int .i64 god]
      have k0 := BK.cell 0
      clear BK
      go_wp2_with fail
      refine (c_alive _).mono ?_
      rintro e w9 ⟨rfl, hb⟩
      go_wp2
      go_ret
      exact ⟨rfl, bnext (bmk B _) hb⟩
    · have HO : Hid (gw ≤ 1000 → isFull rs a t gw = true) := fun h => by
        have e := unhide HG
        rw [pGlOf_ok hk] at e
        have e2 : gw = (lineTot rs a t).w := by rw [e]
        rw [e2] at h ⊢
        exact isFull_own hk h
      have HK := hide hk
      clear hk HF
      go_wp2_with fail
      refine (c_lineGlue A1 _ c1 rs a t _ RA).mono ?_
      rintro e w4 ⟨he, hb⟩
      rw [unhide HG, unhide HK] at he
      subst he
      replace B := bnext B hb
      replace RA := RA.next hb
      clear hb HG HK gb
      have BK := Blk.new w4 29 #[.int .i64 gw, .int .i64 gst, .int .i64 gsh, .int .i64 god]
      have k0 := BK.cell 0
      have l4 : w4.heap.size < (w4.alloc (.cells #[.int .i64 gw, .int .i64 gst, .int .i64 gsh, .int .i64 god] 29)).heap.size := by simp
      have RB := RA.next (bof w4 (.cells #[.int .i64 gw, .int .i64 gst, .int .i64 gsh, .int .i64 god] 29))
      have B4 := bmk B (.cells #[.int .i64 gw, .int .i64 gst, .int .i64 gsh, .int .i64 god] 29)
      clear BK RA B
      by_cases h1 : 1000 < gw
      · have g1 : decide (1000 < gw) = true := decide_eq_true h1
        clear HO
        cases full
        all_goals
          go_wp2_with fail
          refine (c_alive _).mono ?_
          rintro e w9 ⟨rfl, hb⟩
          go_wp2
          go_ret
          exact ⟨rfl, bnext B4 hb⟩
      · have g1 : decide (1000 < gw) = false := decide_eq_false h1
        have HO2 := hide (unhide HO (by omega))
        clear HO
        cases full
        all_goals
          go_wp2_with fail
          refine (c_lineIsFull A1 _ c1 rs a t gw _ RB).mono ?_
          rintro e w6 ⟨he, hb⟩
          rw [unhide HO2] at he
          subst he
          have B6 := bnext B4 hb
          clear hb
          go_wp2_with fail
          refine (c_alive _).mono ?_
          rintro e w9 ⟨rfl, hb⟩
          go_wp2
          go_ret
          exact ⟨rfl, bnext B6 hb⟩
end Go.Proofs.Ytlklkloadefihaa
