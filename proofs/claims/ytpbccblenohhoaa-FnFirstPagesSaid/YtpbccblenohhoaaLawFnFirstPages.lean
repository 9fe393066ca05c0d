/- The walk of the law FnFirstPages: for every code it returns true and changes nothing that was there. No condition. -/
import Derived.Test.YtpbccblenohhoaaPagesR
import Derived.Test.YtpbccblenohhoaaPages5
import Derived.Test.YtpbccblenohhoaaDrawPages
import Derived.Test.YtpbccblenohhoaaAlive
namespace Go.Proofs.Ytpbccblenohhoaa
open Go.RowKit
set_option linter.unusedVariables false

theorem firstOf_args {rs : List Row} {h : Int} {l : List Int} (e : firstOf rs h = some l) : argsOk rs h = true ∧ firstGo rs h rs.length 0 = some l := by
  unfold firstOf at e
  split at e
  · rename_i ha; exact ⟨ha, e⟩
  · cases e
theorem pagesCost_of {rs : List Row} {h : Int} {es : List Int} {s : Int} (ha : argsOk rs h = true) (e : costGo rs h 0 es = some s) : pagesCost rs h es = s := by
  rw [pagesCost, if_pos ha, e]; rfl
theorem first_law {rs : List Row} {h : Int} {l : List Int} (e : firstOf rs h = some l) :
    ∃ b, bestOf rs h = some b ∧ b.length ≤ 31 ∧ l.length ≤ b.length ∧ pagesCost rs h b ≤ pagesCost rs h l ∧ 0 ≤ pagesCost rs h b := by
  obtain ⟨ha, hg⟩ := firstOf_args e
  obtain ⟨hva, hv, hl, hh1, hh2⟩ := args_parts ha
  obtain ⟨s, hs⟩ := first_pages rs.length 0 l (by omega) hg
  obtain ⟨b1, b2⟩ := best_le l 0 s hs
  have hc := follow_cost rs.length 0 (by omega) (by omega) b1
  refine ⟨follow rs (bestTab rs h) rs.length 0, ?_, ?_, ?_, ?_, ?_⟩
  · rw [bestOf, ha, if_pos (by simp [b1])]
  · have := follow_len rs (bestTab rs h) rs.length 0; omega
  · obtain ⟨l', e1, e2⟩ := first_le hv _ 0 0 rs.length _ hc (by omega) (by omega) (by omega)
    rw [hg] at e1
    obtain rfl := Option.some.inj e1
    exact e2
  · rw [pagesCost_of ha hc, pagesCost_of ha hs]; exact b2
  · rw [pagesCost_of ha hc]; exact b1
set_option maxHeartbeats 1600000 in
theorem w_FnFirstPages (A : Option Addr) (n c : Nat) (xs : List Int) (w : World) (h : CodeAt w A n c xs) :
    Calls Try.prog 6 #[.slice A n c] w fun e w' => e = .returned (.bool true) ∧ Below w.heap.size w w' := by
  have hcm := h.2
  unfold maxLen at hcm
  by_cases hbig : 1048576 < n
  · go_enter Try.func6, Try.ntmps6
    go_wp2
    go_ret
    exact ⟨rfl, Below.refl _ _⟩
  · go_enter Try.func6, Try.ntmps6
    go_wp2_with fail
    refine (c_drawFirstPages A n c xs _ h).mono ?_
    rintro e w1 ⟨A1, c1, rs, y, rfl, hl1, ⟨hy0, hy1⟩, R, B⟩
    have hbdR := R.at_.bd
    clear hbig hcm h
    cases hq : firstOf rs y with
    | none =>
      have hP : firstPages rs y = [] := by rw [firstPages, hq]; rfl
      have HQ := hide hq
      clear hq
      go_wp2_with fail
      refine (c_firstPages A1 _ c1 rs y _ R.at_).mono ?_
      rintro e w2 ⟨A2, c2, he, X, hb⟩
      rw [hP, unhide HQ] at he
      rw [hP] at X
      subst he
      replace B := bnext B hb
      replace R := R.next hb
      clear hb
      go_wp2_with fail
      refine (c_firstPages' A1 _ c1 rs y _ R.at_).mono ?_
      rintro e w3 ⟨A3, c3, he, Y, hb⟩
      rw [hP, unhide HQ] at he
      rw [hP] at Y
      subst he
      replace B := bnext B hb
      replace X := X.next hb
      clear hb hP HQ
      go_wp2_with fail
      refine (c_sameInts_same _ _ _ _ _ _ [] _ X.at_ Y.at_).mono ?_
      rintro e w4 ⟨rfl, hb⟩
      replace B := bnext B hb
      clear hb
      go_wp2_with fail
      refine (c_alive _).mono ?_
      rintro e w5 ⟨rfl, hb⟩
      go_wp2
      go_ret
      exact ⟨rfl, bnext B hb⟩
    | some l =>
      have hP : firstPages rs y = l := by rw [firstPages, hq]; rfl
      have hll : l.length ≤ 31 := by
        have := firstGo_len rs y rs.length 0 l (firstOf_args hq).2
        omega
      have HQ := hide hq
      clear hq
      go_wp2_with fail
      refine (c_firstPages A1 _ c1 rs y _ R.at_).mono ?_
      rintro e w2 ⟨A2, c2, he, X, hb⟩
      rw [hP, unhide HQ] at he
      rw [hP] at X
      subst he
      replace B := bnext B hb
      replace R := R.next hb
      clear hb
      go_wp2_with fail
      refine (c_firstPages' A1 _ c1 rs y _ R.at_).mono ?_
      rintro e w3 ⟨A3, c3, he, Y, hb⟩
      rw [hP, unhide HQ] at he
      rw [hP] at Y
      subst he
      replace B := bnext B hb
      replace R := R.next hb
      replace X := X.next hb
      clear hb hP
      go_wp2_with fail
      refine (c_sameInts_same _ _ _ _ _ _ l _ X.at_ Y.at_).mono ?_
      rintro e w4 ⟨rfl, hb⟩
      replace B := bnext B hb
      replace R := R.next hb
      replace X := X.next hb
      clear hb Y
      obtain ⟨b, hq', hlb, hle, hc1, hc2⟩ := first_law (unhide HQ)
      have hP : bestPages rs y = b := by rw [bestPages, hq']; rfl
      have HQ' := hide hq'
      have hle' : decide ((l.length : Int) ≤ (b.length : Int)) = true := by simp; omega
      have hc1' : decide (pagesCost rs y b ≤ pagesCost rs y l) = true := by simp; omega
      have hc2' : decide (0 ≤ pagesCost rs y b) = true := by simp; omega
      clear HQ hq'
      go_wp2_with fail
      refine (c_bestPages A1 _ c1 rs y _ R.at_).mono ?_
      rintro e w2 ⟨A4, c4, he, Z, hb⟩
      rw [hP, unhide HQ'] at he
      rw [hP] at Z
      subst he
      replace B := bnext B hb
      replace R := R.next hb
      replace X := X.next hb
      clear hb hP HQ'
      go_wp2_with fail
      refine (c_pagesCost A1 _ c1 rs y _ _ _ l _ R.at_ X.at_).mono ?_
      rintro e w5 ⟨rfl, hb⟩
      replace B := bnext B hb
      replace R := R.next hb
      replace Z := Z.next hb
      clear hb X
      go_wp2_with fail
      refine (c_pagesCost A1 _ c1 rs y _ _ _ b _ R.at_ Z.at_).mono ?_
      rintro e w6 ⟨rfl, hb⟩
      replace B := bnext B hb
      replace R := R.next hb
      replace Z := Z.next hb
      clear hb
      go_wp2_with fail
      refine (c_pagesCost A1 _ c1 rs y _ _ _ b _ R.at_ Z.at_).mono ?_
      rintro e w7 ⟨rfl, hb⟩
      replace B := bnext B hb
      clear hb R Z
      go_wp2
      go_ret
      exact ⟨rfl, B⟩
end Go.Proofs.Ytpbccblenohhoaa
