/- The walk of the law FnSplitRows: for every code it returns true and changes nothing that was there. No condition. -/
import Derived.Test.YtfpddjglnhkndaaSplit2
import Derived.Test.YtfpddjglnhkndaaDrawSplit
import Derived.Test.YtfpddjglnhkndaaAlive
namespace Go.Proofs.Ytfpddjglnhkndaa
open Go.RowKit
set_option linter.unusedVariables false

theorem okAt_more {rs : List Row} {h h' : Int} {k : Nat} (hh : h ≤ h') (ho : okAt rs h k = true) : okAt rs h' k = true := by
  simp only [okAt, Bool.and_eq_true, decide_eq_true_eq] at ho ⊢
  exact ⟨by omega, ho.2⟩
theorem splitN_more {rs : List Row} {h h' : Int} (hh : h ≤ h') : splitN rs h ≤ splitN rs h' := by
  rcases Nat.lt_or_ge (splitN rs h') (splitN rs h) with hlt | hge
  · have h1 := splitDown_ok rs h rs.length (by unfold splitN at hlt; omega)
    have h2 := splitDown_max rs h' rs.length (splitDown rs h rs.length) hlt (splitDown_le _ _ _)
    rw [okAt_more hh h1] at h2
    cases h2
  · exact hge
theorem rowsValid_take {rs : List Row} (h : rowsValid rs = true) (k : Nat) : rowsValid (rs.take k) = true := by
  rw [rowsValid_iff] at h ⊢
  exact ⟨all_take' h.1 k, by rw [List.length_take]; omega⟩
theorem heightOf_ok {rs : List Row} (h : rowsValid rs = true) : heightOf rs = sumH rs := by simp [heightOf, h]

set_option maxHeartbeats 1600000 in
theorem w_FnSplitRows (A : Option Addr) (n c : Nat) (xs : List Int) (w : World) (h : CodeAt w A n c xs) :
    Calls Try.prog 12 #[.slice A n c] w fun e w' => e = .returned (.bool true) ∧ Below w.heap.size w w' := by
  have hcm := h.2
  unfold maxLen at hcm
  by_cases hbig : 1048576 < n
  · go_enter Try.func12, Try.ntmps12
    go_wp2
    go_ret
    exact ⟨rfl, Below.refl _ _⟩
  · go_enter Try.func12, Try.ntmps12
    go_wp2_with fail
    refine (c_drawSplitRows A n c xs _ h).mono ?_
    rintro e w1 ⟨A1, c1, rs, y, rfl, hl1, hy0, hy1, R, B⟩
    have hbd := R.at_.bd
    obtain ⟨q, HQ⟩ : ∃ q, Hid (q = splitRows rs y) := ⟨_, rfl⟩
    go_wp2_with fail
    refine (c_splitRows A1 _ c1 rs y _ R.at_).mono ?_
    rintro e w2 ⟨he, hb⟩
    rw [← unhide HQ] at he
    subst he
    replace B := bnext B hb
    replace R := R.next hb
    clear hb
    go_wp2_with fail
    refine (c_splitRows' A1 _ c1 rs y _ R.at_).mono ?_
    rintro e w3 ⟨he, hb⟩
    rw [← unhide HQ] at he
    subst he
    replace B := bnext B hb
    replace R := R.next hb
    clear hb
    cases hv : (rowsValid rs && inB y 0 1000000)
    · have hq : q = -1 := by rw [unhide HQ]; simp only [splitRows, hv]; rfl
      clear HQ
      subst hq
      go_wp2_with fail
      refine (c_alive _).mono ?_
      rintro e w4 ⟨rfl, hb⟩
      go_wp2
      go_ret
      exact ⟨rfl, bnext B hb⟩
    · have hq : q = (splitN rs y : Int) := by rw [unhide HQ]; simp only [splitRows, hv]; rfl
      simp only [Bool.and_eq_true, inB_iff] at hv
      obtain ⟨hv, hy2, hy3⟩ := hv
      obtain ⟨m, HM⟩ : ∃ m, Hid (m = splitN rs y) := ⟨_, rfl⟩
      rw [← unhide HM] at hq
      subst hq
      clear HQ
      have hm : m ≤ rs.length := by rw [unhide HM]; exact splitN_le _ _
      have hs1 : sumH (rs.take m) ≤ y := by
        rcases Nat.eq_zero_or_pos m with h0 | h0
        · rw [h0]; simpa [sumH] using hy2
        · have := splitDown_ok rs y rs.length (by have := unhide HM; unfold splitN at this; omega)
          rw [← show m = splitDown rs y rs.length from unhide HM] at this
          simp only [okAt, Bool.and_eq_true, decide_eq_true_eq] at this
          exact this.1
      have hmax : ∀ k, m < k → k ≤ rs.length → okAt rs y k = false := fun k h1 h2 => splitDown_max rs y rs.length k (by have := unhide HM; unfold splitN at this; omega) h2
      have hz1 : decide (rs.length < m) = false := by simp; omega
      have hz2 : decide (y < sumH (rs.take m)) = false := by simp; omega
      go_wp2_with fail
      refine (c_heightOf A1 m c1 (rs.take m) _ (R.at_.take hm)).mono ?_
      rintro e w4 ⟨he, hb⟩
      rw [heightOf_ok (rowsValid_take hv m)] at he
      subst he
      replace B := bnext B hb
      replace R := R.next hb
      clear hb
      have hbnd := sumH_bd (all_take' (rowsValid_iff.1 hv).1 m)
      go_wp2
      go_loopw [6] (fun i wr => ∃ k : Nat, m < k ∧ k ≤ rs.length + 1 ∧ i = .int .i64 k ∧ OwnR wr w.heap.size A1 c1 rs ∧ Below w.heap.size w wr) (fun i _ => rs.length + 1 - (intOf i).toNat)
      case atStart => exact ⟨m + 1, by omega, by omega, by go_num, R, B⟩
      case round =>
        clear R B
        obtain ⟨k, hk1, hk2, rfl, R, B⟩ := hrel
        by_cases hlt : k ≤ rs.length
        · have hno := hmax k hk1 hlt
          go_wp2_with fail
          refine (c_heightOf A1 k c1 (rs.take k) _ (R.at_.take hlt)).mono ?_
          rintro e w5 ⟨he, hb⟩
          rw [heightOf_ok (rowsValid_take hv k)] at he
          subst he
          replace B := bnext B hb
          replace R := R.next hb
          clear hb
          obtain ⟨b, off, r, rfl, hbl, hr, h0, h1, h2, h3⟩ := R.at_.at_ (show k - 1 < rs.length by omega)
          rw [okAt, keepAt_get hr] at hno
          clear hr h0 h2 h3 hmax
          by_cases hs : sumH (rs.take k) ≤ y
          · simp only [hs, decide_true, Bool.true_and, Bool.or_eq_false_iff, decide_eq_false_iff_not] at hno
            have hz : ((k : Int) == (rs.length : Int)) = false := by simp; omega
            have hk : r.k = true := by simpa using hno.2
            clear hno
            go_wp2
            go_roundw
            case rel => exact ⟨k + 1, by omega, by omega, by go_num, R, B⟩
            case measure => simp [intOf]; omega
          · clear hno
            go_wp2
            go_roundw
            case rel => exact ⟨k + 1, by omega, by omega, by go_num, R, B⟩
            case measure => simp [intOf]; omega
        · clear hmax
          by_cases hy9 : y = 1000000
          · subst hy9
            go_wp2
            go_ret
            exact ⟨rfl, B⟩
          · have hz : (y == 1000000) = false := by simp [hy9]
            have hmore : (m : Int) ≤ (splitN rs (y + 1) : Int) := by
              have := splitN_more (rs := rs) (show y ≤ y + 1 by omega)
              rw [← unhide HM] at this; omega
            have hsp : splitRows rs (y + 1) = (splitN rs (y + 1) : Int) := by
              have : inB (y + 1) 0 1000000 = true := inB_iff.2 (by omega)
              simp [splitRows, hv, this]
            go_wp2_with fail
            refine (c_splitRows A1 _ c1 rs (y + 1) _ R.at_).mono ?_
            rintro e w6 ⟨he, hb⟩
            rw [hsp] at he
            subst he
            clear hsp
            go_wp2
            go_ret
            exact ⟨rfl, bnext B hb⟩
end Go.Proofs.Ytfpddjglnhkndaa
