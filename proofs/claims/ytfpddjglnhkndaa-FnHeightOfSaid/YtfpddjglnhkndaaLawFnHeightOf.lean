/- The walk of the law FnHeightOf: for every code it returns true and changes nothing that was there. No condition. -/
import Derived.Test.YtfpddjglnhkndaaSplit
import Derived.Test.YtfpddjglnhkndaaDrawRows2
import Derived.Test.YtfpddjglnhkndaaAlive
import Derived.Deep.RegionWith
namespace Go.Proofs.Ytfpddjglnhkndaa
open Go.RowKit
set_option linter.unusedVariables false

theorem sumH_ge : ∀ {rs : List Row}, rs.all rowValid = true → (rs.length : Int) ≤ sumH rs
  | [], _ => by simp [sumH]
  | r :: t, h => by
    simp only [List.all_cons, Bool.and_eq_true] at h
    have ih := sumH_ge h.2
    have hr := h.1
    simp only [rowValid, Bool.and_eq_true, inB_iff] at hr
    have : sumH (r :: t) = r.h + sumH t := by simp [sumH]
    rw [this, List.length_cons]; omega
theorem rowsValid_take {rs : List Row} (h : rowsValid rs = true) (k : Nat) : rowsValid (rs.take k) = true := by
  rw [rowsValid_iff] at h ⊢
  exact ⟨all_take' h.1 k, by rw [List.length_take]; omega⟩
theorem heightOf_ok {rs : List Row} (h : rowsValid rs = true) : heightOf rs = sumH rs := by simp [heightOf, h]

set_option maxHeartbeats 800000 in
theorem w_FnHeightOf (A : Option Addr) (n c : Nat) (xs : List Int) (w : World) (h : CodeAt w A n c xs) :
    Calls Try.prog 8 #[.slice A n c] w fun e w' => e = .returned (.bool true) ∧ Below w.heap.size w w' := by
  have hcm := h.2
  unfold maxLen at hcm
  by_cases hbig : 1048576 < n
  · go_enter Try.func8, Try.ntmps8
    go_wp2
    go_ret
    exact ⟨rfl, Below.refl _ _⟩
  · go_enter Try.func8, Try.ntmps8
    go_wp2_with fail
    refine (c_drawHeightOf A n c xs _ h).mono ?_
    rintro e w1 ⟨A1, c1, rs, rfl, hl1, R, B⟩
    have hbd := R.at_.bd
    obtain ⟨q, HQ⟩ : ∃ q, Hid (q = heightOf rs) := ⟨_, rfl⟩
    go_wp2_with fail
    refine (c_heightOf A1 _ c1 rs _ R.at_).mono ?_
    rintro e w2 ⟨he, hb⟩
    rw [← unhide HQ] at he
    subst he
    replace B := bnext B hb
    replace R := R.next hb
    clear hb
    go_wp2_with fail
    refine (c_heightOf' A1 _ c1 rs _ R.at_).mono ?_
    rintro e w3 ⟨he, hb⟩
    rw [← unhide HQ] at he
    subst he
    replace B := bnext B hb
    replace R := R.next hb
    clear hb
    cases hv : rowsValid rs
    · have hq : q = -1 := by rw [unhide HQ]; simp [heightOf, hv]
      clear HQ
      subst hq
      go_wp2_with fail
      refine (c_alive _).mono ?_
      rintro e w4 ⟨rfl, hb⟩
      go_wp2
      go_ret
      exact ⟨rfl, bnext B hb⟩
    · have hv' := rowsValid_iff.1 hv
      have hq : q = sumH rs := by rw [unhide HQ, heightOf_ok hv]
      have hge := sumH_ge hv'.1
      have hbd2 := sumH_bd hv'.1
      rw [← hq] at hge hbd2
      have hh : rs.length / 2 ≤ rs.length := Nat.div_le_self _ _
      obtain ⟨A2, hR2, hsl0⟩ := rows_from R.at_ hh
      have hsl := fun wx => hsl0 wx
      rw [show ((rs.length / 2 : Nat) : Int) = (rs.length : Int) / 2 from by omega] at hsl
      clear hsl0
      have hR1 := R.at_.take hh
      obtain ⟨s1, HS1⟩ : ∃ s, Hid (s = sumH (rs.take (rs.length / 2))) := ⟨_, rfl⟩
      obtain ⟨s2, HS2⟩ : ∃ s, Hid (s = sumH (rs.drop (rs.length / 2))) := ⟨_, rfl⟩
      have e1 : heightOf (rs.take (rs.length / 2)) = s1 := by rw [heightOf_ok (rowsValid_take hv _), unhide HS1]
      have e2 : heightOf (rs.drop (rs.length / 2)) = s2 := by rw [heightOf_ok (rowsValid_drop hv _), unhide HS2]
      have b1 := sumH_bd (all_take' hv'.1 (rs.length / 2))
      have b2 := sumH_bd (all_drop' hv'.1 (rs.length / 2))
      rw [← unhide HS1] at b1
      rw [← unhide HS2] at b2
      have b1l := List.length_take_le (rs.length / 2) rs
      have b2l : (rs.drop (rs.length / 2)).length ≤ rs.length := by rw [List.length_drop]; omega
      have hsum : s1 + s2 = q := by
        rw [hq, unhide HS1, unhide HS2, ← sumH_append, List.take_append_drop]
      have z1 : (s1 + s2 == q) = true := by simp [hsum]
      have z0 : 0 ≤ s1 ∧ s1 ≤ 100000 ∧ 0 ≤ s2 ∧ s2 ≤ 100000 := by omega
      obtain ⟨z01, z02, z03, z04⟩ := z0
      have hw1 : IntKind.i64.wrap (s1 + s2) = s1 + s2 := IntWalk.i64_in _ (by omega)
      have hge2 : (rs.length : Int) ≤ q := hge
      have E1 := hide e1
      have E2 := hide e2
      clear hq hsum HQ b1 b2 e1 e2 hbd2
      go_wp2
      go_region_with (first
        | (go_at_call_of 27 (A2); refine (c_heightOf A2 _ _ (rs.drop (rs.length / 2)) _ ?_).mono ?_; (first | exact hR2.next (Below.refl _ _).drew | (refine hR2.next ?_; exact bnext (Below.refl _ _).drew (by assumption))); rintro e w5 ⟨he, hb5⟩; rw [unhide E2] at he; subst he)
        | (go_at_call 27; refine (c_heightOf A1 _ _ (rs.take (rs.length / 2)) _ ?_).mono ?_; (first | exact hR1.next (Below.refl _ _).drew); rintro e w4 ⟨he, hb4⟩; rw [unhide E1] at he; subst he))
      all_goals
        go_wp2
        go_ret
        refine ⟨by kernel_rfl, bnext (bnext B.drew hb4) hb5⟩
end Go.Proofs.Ytfpddjglnhkndaa
