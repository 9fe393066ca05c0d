/- The walk of the law FnPagesHigher: for every code it returns true and changes nothing that was there. No condition. -/
import Derived.Test.YtpbccblenohhoaaPagesR
import Derived.Test.YtpbccblenohhoaaDrawPages
import Derived.Test.YtpbccblenohhoaaAlive
namespace Go.Proofs.Ytpbccblenohhoaa
open Go.RowKit
set_option linter.unusedVariables false

theorem firstOf_args {rs : List Row} {h : Int} {l : List Int} (e : firstOf rs h = some l) : argsOk rs h = true ∧ firstGo rs h rs.length 0 = some l := by
  unfold firstOf at e
  split at e
  · rename_i ha; exact ⟨ha, e⟩
  · cases e
theorem higher_law {rs : List Row} {h : Int} {l : List Int} (e : firstOf rs h = some l) (hh : h ≠ 1000) : ∃ l', firstOf rs (h + 1) = some l' ∧ l'.length ≤ l.length := by
  obtain ⟨ha, hg⟩ := firstOf_args e
  obtain ⟨hva, hv, hl, hh1, hh2⟩ := args_parts ha
  obtain ⟨s, hs⟩ := first_pages rs.length 0 l (by omega) hg
  obtain ⟨s', hs'⟩ := cost_higher (h' := h + 1) (by omega) l 0 s hs
  obtain ⟨l', e1, e2⟩ := first_le hv l 0 0 rs.length s' hs' (by omega) (by omega) (by omega)
  refine ⟨l', ?_, e2⟩
  have : argsOk rs (h + 1) = true := by
    have h5 : inB (h + 1) 1 1000 = true := inB_iff.2 (by omega)
    simp [argsOk, hva, h5]
  rw [firstOf, if_pos this, e1]
set_option maxHeartbeats 1600000 in
theorem w_FnPagesHigher (A : Option Addr) (n c : Nat) (xs : List Int) (w : World) (h : CodeAt w A n c xs) :
    Calls Try.prog 9 #[.slice A n c] w fun e w' => e = .returned (.bool true) ∧ Below w.heap.size w w' := by
  have hcm := h.2
  unfold maxLen at hcm
  by_cases hbig : 1048576 < n
  · go_enter Try.func9, Try.ntmps9
    go_wp2
    go_ret
    exact ⟨rfl, Below.refl _ _⟩
  · go_enter Try.func9, Try.ntmps9
    go_wp2_with fail
    refine (c_drawFirstPages A n c xs _ h).mono ?_
    rintro e w1 ⟨A1, c1, rs, y, rfl, hl1, ⟨hy0, hy1⟩, R, B⟩
    have hbdR := R.at_.bd
    clear hbig hcm h
    cases hq : firstOf rs y with
    | none =>
      have hP : firstPages rs y = [] := by rw [firstPages, hq]; rfl
      have HQ := hide hq
      clear hq
      go_wp2_with fail
      refine (c_firstPages A1 _ c1 rs y _ R.at_).mono ?_
      rintro e w2 ⟨A2, c2, he, X, hb⟩
      rw [hP, unhide HQ] at he
      rw [hP] at X
      subst he
      replace B := bnext B hb
      replace R := R.next hb
      clear hb
      go_wp2_with fail
      refine (c_firstPages' A1 _ c1 rs y _ R.at_).mono ?_
      rintro e w3 ⟨A3, c3, he, Y, hb⟩
      rw [hP, unhide HQ] at he
      rw [hP] at Y
      subst he
      replace B := bnext B hb
      replace X := X.next hb
      clear hb hP HQ
      go_wp2_with fail
      refine (c_sameInts_same _ _ _ _ _ _ [] _ X.at_ Y.at_).mono ?_
      rintro e w4 ⟨rfl, hb⟩
      replace B := bnext B hb
      clear hb
      go_wp2_with fail
      refine (c_alive _).mono ?_
      rintro e w5 ⟨rfl, hb⟩
      go_wp2
      go_ret
      exact ⟨rfl, bnext B hb⟩
    | some l =>
      have hP : firstPages rs y = l := by rw [firstPages, hq]; rfl
      have hll : l.length ≤ 31 := by
        have := firstGo_len rs y rs.length 0 l (firstOf_args hq).2
        omega
      have HQ := hide hq
      clear hq
      go_wp2_with fail
      refine (c_firstPages A1 _ c1 rs y _ R.at_).mono ?_
      rintro e w2 ⟨A2, c2, he, X, hb⟩
      rw [hP, unhide HQ] at he
      rw [hP] at X
      subst he
      replace B := bnext B hb
      replace R := R.next hb
      clear hb
      go_wp2_with fail
      refine (c_firstPages' A1 _ c1 rs y _ R.at_).mono ?_
      rintro e w3 ⟨A3, c3, he, Y, hb⟩
      rw [hP, unhide HQ] at he
      rw [hP] at Y
      subst he
      replace B := bnext B hb
      replace R := R.next hb
      replace X := X.next hb
      clear hb hP
      go_wp2_with fail
      refine (c_sameInts_same _ _ _ _ _ _ l _ X.at_ Y.at_).mono ?_
      rintro e w4 ⟨rfl, hb⟩
      replace B := bnext B hb
      replace R := R.next hb
      clear hb X Y
      by_cases hy : y = 1000
      · subst hy
        clear HQ
        go_wp2_with fail
        refine (c_alive _).mono ?_
        rintro e w5 ⟨rfl, hb⟩
        go_wp2
        go_ret
        exact ⟨rfl, bnext B hb⟩
      · have hz : (y == 1000) = false := by simp [hy]
        obtain ⟨l', hq', hle⟩ := higher_law (unhide HQ) hy
        have hP : firstPages rs (y + 1) = l' := by rw [firstPages, hq']; rfl
        have HQ' := hide hq'
        clear HQ hq'
        go_wp2_with fail
        refine (c_firstPages A1 _ c1 rs (y + 1) _ R.at_).mono ?_
        rintro e w2 ⟨A2, c2, he, X, hb⟩
        rw [hP, unhide HQ'] at he
        subst he
        replace B := bnext B hb
        clear hb hP HQ' X
        have hle' : decide ((l'.length : Int) ≤ (l.length : Int)) = true := by simp; omega
        go_wp2
        go_ret
        exact ⟨rfl, B⟩
end Go.Proofs.Ytpbccblenohhoaa
