/- The walk of the law FnFirstBreaks: for every code it returns true and changes nothing that was there. No condition. -/
import Derived.Test.YtlklkloadefihaaMc
import Derived.Test.YtlklkloadefihaaMf
import Derived.Test.YtlklkloadefihaaMbt
import Derived.Test.YtlklkloadefihaaDrawW
import Derived.Test.YtlklkloadefihaaMa
namespace Go.Proofs.Ytlklkloadefihaa
open Go.RowKit
set_option linter.unusedVariables false

theorem costSum_mem {rs : List Item} {width most : Int} : ∀ (bs : List Int) (s : St) (n : Int), costSum rs width most s bs = some n → ∀ x ∈ bs, 0 ≤ x ∧ x < rs.length
  | [], _, _, _ => by simp
  | b :: t, s, n, h => by
    obtain ⟨k, e, r, hs, hc, rfl⟩ := costSum_cons h
    have hb := stepOf_bd hs
    intro x hx
    rcases List.mem_cons.1 hx with rfl | hx
    · omega
    · exact costSum_mem t e r hc x hx
theorem brCost_mem {rs : List Item} {width most : Int} {bs : List Int} (h : 0 ≤ brCost rs width most bs) : ∀ x ∈ bs, 0 ≤ x ∧ x < rs.length := by
  rcases brCost_cases (rs := rs) (width := width) (most := most) bs with h1 | ⟨n, _, hc, _⟩
  · omega
  · exact costSum_mem _ _ _ hc
set_option maxRecDepth 100000 in
set_option maxHeartbeats 6400000 in
theorem w_FnFirstBreaks (A : Option Addr) (n c : Nat) (xs : List Int) (w : World) (h : CodeAt w A n c xs) :
    Calls Try.prog 6 #[.slice A n c] w fun e w' => e = .returned (.bool true) ∧ Below w.heap.size w w' := by
  have hcm := h.2
  unfold maxLen at hcm
  by_cases hbig : 1048576 < n
  · go_enter Try.func6, Try.ntmps6
    go_wp2
    go_ret
    exact ⟨rfl, Below.refl _ _⟩
  · go_enter Try.func6, Try.ntmps6
    go_wp2_with fail
    refine (c_drawFirstBreaks A n c xs _ h).mono ?_
    rintro e w1 ⟨A1, c1, rs, y, z, rfl, hl1, R, B⟩
    have hbdR := R.at_.bd
    clear hbig hcm h
    cases hq : firstBr rs y z with
    | none =>
      have hP : firstBreaks rs y z = [] := by rw [firstBreaks, hq] <;> rfl
      have HQ := hide hq
      clear hq
      go_wp2_with fail
      refine (c_firstBreaks A1 _ c1 rs y z _ R.at_).mono ?_
      rintro e w2 ⟨A2, c2, he, X, hb⟩
      rw [hP, unhide HQ] at he
      rw [hP] at X
      subst he
      replace B := bnext B hb
      replace R := R.next hb
      clear hb
      go_wp2_with fail
      refine (c_firstBreaks' A1 _ c1 rs y z _ R.at_).mono ?_
      rintro e w3 ⟨A3, c3, he, Y, hb⟩
      rw [hP, unhide HQ] at he
      rw [hP] at Y
      subst he
      replace B := bnext B hb
      replace R := R.next hb
      replace X := X.next hb
      clear hb hP HQ
      go_wp2_with fail
      refine (c_sameInts_same _ _ _ _ _ _ [] _ X.at_ Y.at_).mono ?_
      rintro e w4 ⟨rfl, hb⟩
      replace B := bnext B hb
      replace R := R.next hb
      replace X := X.next hb
      clear hb Y
      clear R X
      go_wp2_with fail
      refine (c_alive _).mono ?_
      rintro e w9 ⟨rfl, hb⟩
      go_wp2
      go_ret
      exact ⟨rfl, bnext B hb⟩
    | some b =>
      have hP : firstBreaks rs y z = b := by rw [firstBreaks, hq] <;> rfl
      obtain ⟨hc0, hbl, hfur⟩ := firstBr_some hq
      have hbest := brCost_best b hc0
      have hmem := brCost_mem hc0
      obtain ⟨b', hq'⟩ : ∃ b', bestBr rs y z = some b' := by
        rw [bestBr, if_pos hbest.1, if_pos hbest.2.1]; exact ⟨_, rfl⟩
      have hS := bestBr_some_cost hq'
      have hP' : bestBreaks rs y z = b' := by rw [bestBreaks, hq'] <;> rfl
      have hbl' := hS.2.2.2.1
      have hle : brCost rs y z b' ≤ brCost rs y z b := by rw [hS.2.1]; exact hbest.2.2
      obtain ⟨p, HC1⟩ : ∃ p, Hid (brCost rs y z b = p) := ⟨_, rfl⟩
      obtain ⟨q, HC2⟩ : ∃ q, Hid (brCost rs y z b' = q) := ⟨_, rfl⟩
      rw [unhide HC1] at hle hc0
      rw [unhide HC2] at hle
      have HQ := hide hq
      have HQ' := hide hq'
      have HP' := hide hP'
      have HFU := hide hfur
      have HM := hide hmem
      clear hq hq' hP' hS hbest hfur hmem
      go_wp2_with fail
      refine (c_firstBreaks A1 _ c1 rs y z _ R.at_).mono ?_
      rintro e w2 ⟨A2, c2, he, X, hb⟩
      rw [hP, unhide HQ] at he
      rw [hP] at X
      subst he
      replace B := bnext B hb
      replace R := R.next hb
      clear hb
      go_wp2_with fail
      refine (c_firstBreaks' A1 _ c1 rs y z _ R.at_).mono ?_
      rintro e w3 ⟨A3, c3, he, Y, hb⟩
      rw [hP, unhide HQ] at he
      rw [hP] at Y
      subst he
      replace B := bnext B hb
      replace R := R.next hb
      replace X := X.next hb
      clear hb hP HQ
      go_wp2_with fail
      refine (c_sameInts_same _ _ _ _ _ _ b _ X.at_ Y.at_).mono ?_
      rintro e w4 ⟨rfl, hb⟩
      replace B := bnext B hb
      replace R := R.next hb
      replace X := X.next hb
      clear hb Y
      go_wp2_with fail
      refine (c_breaksCost A1 _ c1 rs y z _ _ _ b _ R.at_ X.at_ (by omega)).mono ?_
      rintro e w5 ⟨he, hb⟩
      rw [unhide HC1] at he
      subst he
      replace B := bnext B hb
      replace R := R.next hb
      replace X := X.next hb
      clear hb HC1
      go_wp2_with fail
      refine (c_bestBreaks A1 _ c1 rs y z _ R.at_).mono ?_
      rintro e w6 ⟨A6, c6, he, Z, hb⟩
      rw [unhide HP', unhide HQ'] at he
      rw [unhide HP'] at Z
      subst he
      replace B := bnext B hb
      have RA := R.at_.next hb
      have XA := X.at_.next hb
      have ZA := Z.at_
      clear hb HP' HQ' R X Z
      go_wp2
      go_loopw [13, 14] (fun av i wr => ∃ (k : Nat) (a : Int), k ≤ b.length ∧ i = .int .i64 k ∧ av = .int .i64 a ∧ Hid (a = ((-1 : Int) :: b).getD k 0) ∧ ItemsAt wr A1 rs.length c1 rs ∧ IntsAt wr A2 b.length c2 b ∧ IntsAt wr A6 b'.length c6 b' ∧ Below w.heap.size w wr) (fun _ i _ => b.length - (intOf i).toNat)
      case atStart => exact ⟨0, -1, Nat.zero_le _, rfl, rfl, rfl, RA, XA, ZA, B⟩
      case round =>
        clear RA XA ZA B
        obtain ⟨k, a, hk, rfl, rfl, HA, RA, XA, ZA, B⟩ := hrel
        obtain ⟨wL, rfl⟩ : ∃ wL : World, wL = wr := ⟨_, rfl⟩
        by_cases hlt : k < b.length
        · obtain ⟨bx, ox, xk, rfl, hbx, hxx, hxc⟩ := XA.at_ hlt
          have hxr := unhide HM xk (mem_of_get hxx)
          obtain ⟨xn, rfl⟩ : ∃ xn : Nat, xk = xn := ⟨xk.toNat, by omega⟩
          have hxk : b.getD k 0 = (xn : Int) := by simp [hxx]
          have HN : Hid ((xn : Int) = ((-1 : Int) :: b).getD (k + 1) 0) := by show _ = _; rw [List.getD_cons_succ]; exact hxk.symm
          have hfu := unhide HFU k xn hxx
          rw [← unhide HA] at hfu
          have HU := hide hfu
          clear hfu hxx hxk HA
          go_wp2
          go_loopw [15] (fun i wr => ∃ t : Nat, xn < t ∧ t ≤ rs.length ∧ i = .int .i64 t ∧ Below wL.heap.size wL wr) (fun i _ => rs.length - (intOf i).toNat)
          case atStart => exact ⟨xn + 1, by omega, by omega, by go_num, Below.refl _ _⟩
          case round =>
            obtain ⟨t, ht1, ht2, rfl, BI⟩ := hrel
            by_cases htl : t < rs.length
            · obtain ⟨bad, st, HB⟩ : ∃ bad st, Hid (lineBad rs a (t : Int) y = (bad, st)) := ⟨_, _, rfl⟩
              have hno := unhide HU (t : Int) (by omega)
              rw [unhide HB] at hno
              go_wp2_with fail
              refine (c_lineBadness A1 _ c1 rs a (t : Int) y _ (RA.next BI)).mono ?_
              rintro e w8 ⟨he, hb⟩
              rw [unhide HB] at he
              subst he
              replace BI := bnext BI hb
              clear hb HB
              by_cases h0 : 0 ≤ bad
              · have g1 : decide (0 ≤ bad) = true := decide_eq_true h0
                have g2 : decide (bad ≤ z) = false := decide_eq_false (by omega)
                clear hno
                go_wp2
                go_roundw
                case rel => exact ⟨t + 1, by omega, by omega, by go_num, BI⟩
                case measure => simp [intOf]; omega
              · have g1 : decide (0 ≤ bad) = false := decide_eq_false h0
                clear hno
                go_wp2
                go_roundw
                case rel => exact ⟨t + 1, by omega, by omega, by go_num, BI⟩
                case measure => simp [intOf]; omega
            · have hxc2 := (BI.cell (p := ⟨bx, ox + k, none⟩) hbx).trans hxc
              go_wp2
              go_roundw
              case rel => exact ⟨k + 1, xn, by omega, by go_num, rfl, HN, RA.next BI, XA.next BI, ZA.next BI, bnext B BI⟩
              case measure => simp [intOf]; omega
        · have g1 : decide (0 ≤ p) = true := decide_eq_true hc0
          have g2 : decide (q ≤ p) = true := decide_eq_true hle
          clear HA HFU HM
          go_wp2_with fail
          refine (c_breaksCost A1 _ c1 rs y z _ _ _ b' _ RA ZA (by omega)).mono ?_
          rintro e w8 ⟨he, hb⟩
          rw [unhide HC2] at he
          subst he
          clear HC2
          go_wp2
          go_ret
          exact ⟨rfl, bnext B hb⟩
end Go.Proofs.Ytlklkloadefihaa
