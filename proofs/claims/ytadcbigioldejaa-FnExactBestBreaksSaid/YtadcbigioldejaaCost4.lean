/- The reference's BreaksCost: contract. No condition. -/
import Derived.Test.YtadcbigioldejaaCost3
namespace Go.Proofs.Ytadcbigioldejaa
open Go.RowKit
set_option linter.unusedVariables false

def markOf (rs : List Item) (after : Int) : Bool := decide (0 ≤ after) && (itAt rs after.toNat).mark
theorem stepOf_parts {rs : List Item} {width most : Int} {s : St} {to bad : Int} {st : Bool} (h : lineBad rs s.at_ to width = (bad, st)) :
    stepOf rs width most s to = if bad < 0 ∨ most < bad then none else some (costOf bad (itAt rs to.toNat).cost + (exMark s (itAt rs to.toNat).mark + exLooks s (looksOf st bad)), ⟨to, (itAt rs to.toNat).mark, looksOf st bad⟩) := by
  rw [stepOf, h]; simp only [Int.add_assoc]
theorem costSum_long {rs : List Item} {width most : Int} {bs : List Int} (h0 : 0 < rs.length) (h : rs.length < bs.length) : costSum rs width most St.start bs = none := by
  cases hc : costSum rs width most St.start bs with
  | none => rfl
  | some c => have := costSum_len bs St.start c hc (by simp [St.start]) (by simp [St.start]; omega); simp [St.start] at this; omega
theorem brCost_eq {rs : List Item} {width most : Int} {bs : List Int} (hv : itemsValid rs = true) (hw : inB width 0 1000 = true) (hm : inB most 0 10000 = true) (hl : bs.getLast? = some ((rs.length : Int) - 1)) :
    brCost rs width most bs = (costSum rs width most St.start bs).getD (-1) := by
  rcases Nat.eq_zero_or_pos rs.length with h0 | h0
  · have e1 : brCost rs width most bs = -1 := brCost_not (brOk_args (by simp [argsB, h0]))
    have e2 : costSum rs width most St.start bs = none := by
      cases bs with
      | nil => simp at hl
      | cons to t =>
        have hb : (lineBad rs St.start.at_ to width).1 = -1 := by
          rcases Int.lt_or_le to 0 with h | h
          · exact lineBad_low (by simp only [St.start]; omega)
          · exact lineBad_high (by omega)
        rw [costSum, stepOf, hb]; simp
    rw [e1, e2]; rfl
  · exact brCost_ok (brOk_cases.2 ⟨by simp [argsB, hv, hw, hm, h0], hl⟩)
set_option maxRecDepth 100000 in
set_option maxHeartbeats 3200000 in
theorem c_breaksCost' (A : Option Addr) (n c : Nat) (rs : List Item) (width most : Int) (A2 : Option Addr) (n2 c2 : Nat) (bs : List Int) (w : World) (hR : ItemsAt w A n c rs) (hI : IntsAt w A2 n2 c2 bs) (hn2 : n2 ≤ 100000000) :
    Calls Try.prog 23 #[.slice A n c, .int .i64 width, .int .i64 most, .slice A2 n2 c2] w fun e w' => e = .returned (.int .i64 (brCost rs width most bs)) ∧ Below w.heap.size w w' := by
  have hlen := hR.len
  have hbd := hR.bd
  have hbd2 := hI.bd
  have hlen2 := hI.len
  have HLEN := hide hlen
  have HLEN2 := hide hlen2
  clear hlen hlen2
  go_enter Try.func23, Try.ntmps23
  go_wp2_with fail
  refine (c_itemsValid' A n c rs _ hR).mono ?_
  rintro e w1 ⟨rfl, hb1⟩
  cases hv : itemsValid rs
  case' false =>
    have H : Hid (brCost rs width most bs = -1) := brCost_not (brOk_args (by simp [argsB, hv]))
    clear hv
    go_wp2
    go_ret
    exact ⟨by rw [unhide H] <;> rfl, hb1⟩
  case' true =>
    have HV := hide hv
    cases hw : inB width 0 1000
    case' false =>
      have H : Hid (brCost rs width most bs = -1) := brCost_not (brOk_args (by simp [argsB, hw]))
      clear hv
      go_wp2_with (go_at_call 37; refine (c_l1In _ _ _ _).mono ?_; rintro e w' ⟨rfl, rfl⟩)
      go_ret
      exact ⟨by rw [unhide H] <;> rfl, hb1⟩
    case' true =>
      cases hm : inB most 0 10000
      case' false =>
        have H : Hid (brCost rs width most bs = -1) := brCost_not (brOk_args (by simp [argsB, hm]))
        clear hv
        go_wp2_with (go_at_call 37; refine (c_l1In _ _ _ _).mono ?_; rintro e w' ⟨rfl, rfl⟩)
        go_ret
        exact ⟨by rw [unhide H] <;> rfl, hb1⟩
      case' true =>
        rcases n2 with _ | j
        case' zero =>
          obtain rfl : bs = [] := List.eq_nil_of_length_eq_zero (unhide HLEN2)
          have H : Hid (brCost rs width most [] = -1) := brCost_not (by simp [brOk])
          clear hv
          go_wp2_with (go_at_call 37; refine (c_l1In _ _ _ _).mono ?_; rintro e w' ⟨rfl, rfl⟩)
          go_ret
          exact ⟨by rw [unhide H] <;> rfl, hb1⟩
        case' succ =>
          have hn60 := (itemsValid_iff.1 hv).2
          rw [unhide HLEN] at hn60
          obtain ⟨b, off, x, rfl, hbl, hx, hcx⟩ := (hI.next hb1).at_ (k := j) (by omega)
          have hlast := last_get (unhide HLEN2) hx
          have hz : (((j + 1 : Nat) : Int) == 0) = false := by simp <;> omega
          have hz2 : ((j : Int) + 1 == 0) = false := by simp <;> omega
          by_cases hlong : 60 < j + 1
          case' pos =>
            have H : Hid (brCost rs width most bs = -1) := by
              show _ = _
              cases hok : brOk rs width most bs
              · exact brCost_not hok
              · have hn0 := (argsB_iff.1 (brOk_cases.1 hok).1).2.1
                rw [brCost_ok hok, costSum_long hn0 (by rw [unhide HLEN, unhide HLEN2]; omega)]; rfl
            have hl1 : decide ((60 : Int) < (j : Int) + 1) = true := by simp; omega
            have hl2 : (60 : Int) < (j : Int) + 1 := by omega
            clear hx hlast hv
            go_wp2_with (go_at_call 37; refine (c_l1In _ _ _ _).mono ?_; rintro e w' ⟨rfl, rfl⟩)
            go_ret
            exact ⟨by rw [unhide H] <;> rfl, hb1⟩
          case' neg =>
            have hl1 : decide ((60 : Int) < (j : Int) + 1) = false := by simp; omega
            by_cases hxn : x = (n : Int) - 1
            case' neg =>
              have H : Hid (brCost rs width most bs = -1) := brCost_not (brOk_last hlast (by rw [unhide HLEN]; exact hxn))
              have hne : (x != (n : Int) - 1) = true := by simpa using hxn
              clear hx hlast hxn hv
              go_wp2_with (go_at_call 37; refine (c_l1In _ _ _ _).mono ?_; rintro e w' ⟨rfl, rfl⟩)
              go_ret
              exact ⟨by rw [unhide H] <;> rfl, hb1⟩
            case' pos =>
              have HB : Hid (brCost rs width most bs = (costSum rs width most St.start bs).getD (-1)) := brCost_eq hv hw hm (by rw [hlast, hxn, unhide HLEN])
              obtain ⟨X, HX⟩ : ∃ X, Hid (X = costSum rs width most St.start bs) := ⟨_, rfl⟩
              rw [← unhide HX] at HB
              have hne : (x != (n : Int) - 1) = false := by simpa using hxn
              have hj60 : j + 1 ≤ 60 := by omega
              clear hx hlast hxn hlong hv
              go_wp2_with (go_at_call 37; refine (c_l1In _ _ _ _).mono ?_; rintro e w' ⟨rfl, rfl⟩)
              clear hcx
              go_loopw [9, 10, 11, 12] (fun av bv sv i wr => ∃ (k : Nat) (sm sa sl : Int), k ≤ j + 1 ∧ i = .int .i64 k ∧ sv = .int .i64 sm ∧ av = .int .i64 sa ∧ bv = .int .i64 sl ∧ -1 ≤ sa ∧ sa < n ∧ 0 ≤ sl ∧ sl ≤ 3 ∧ 0 ≤ sm ∧ sm ≤ 210006000 * (sa + 1) ∧ Hid (X = (costSum rs width most ⟨sa, markOf rs sa, sl⟩ (bs.drop k)).map (sm + ·)) ∧ Below w.heap.size w wr) (fun _ _ _ i _ => j + 1 - (intOf i).toNat)
              case atStart => exact ⟨0, 0, -1, 1, by omega, rfl, rfl, rfl, rfl, by omega, by omega, by omega, by omega, by omega, by omega, by show _ = _; rw [unhide HX, St.start, costSum_first (m' := markOf rs (-1)) (l' := 1)]; simp, hb1⟩
              case round =>
                clear hb1 HX
                obtain ⟨k, sm, sa, sl, hk, rfl, rfl, rfl, rfl, hsa0, hsa1, hsl0, hsl1, hsm0, hsm1, hgo, hb⟩ := hrel
                by_cases hlt : k < j + 1
                · obtain ⟨b1, off1, y, e1, hbl1, hy, hcy⟩ := (hI.next hb).at_ hlt
                  cases e1
                  have hgo2 := unhide hgo
                  rw [drop_get hy] at hgo2
                  have HGO := hide hgo2
                  clear hgo hy hgo2
                  obtain ⟨bad, st, HE⟩ : ∃ bad st, Hid (lineBad rs sa y width = (bad, st)) := ⟨_, _, rfl⟩
                  have HS := hide (stepOf_parts (most := most) (s := ⟨sa, markOf rs sa, sl⟩) (unhide HE))
                  go_wp2_with fail
                  refine (c_lineBadness' _ n c rs sa y width _ (hR.next hb)).mono ?_
                  rw [unhide HE]
                  rintro e w2 ⟨rfl, hb2⟩
                  replace hb := bnext hb hb2
                  clear hb2
                  by_cases h0 : bad < 0 ∨ most < bad
                  · have H : Hid (X = none) := costSum_stop (unhide HGO) (by rw [unhide HS, if_pos h0])
                    clear HGO HE HS
                    rcases noCases h0 with h | ⟨h, h'⟩
                    all_goals
                      go_wp2
                      go_ret
                      rw [unhide HB, unhide H]
                      exact ⟨rfl, hb⟩
                  · have hbad0 : 0 ≤ bad := by omega
                    have hbm : bad ≤ most := by omega
                    have hg1 : decide (bad < 0) = false := by simpa using hbad0
                    have hg2 : decide (most < bad) = false := by simpa using hbm
                    have hb3 := (lineBad_bd rs sa y width).2
                    rw [unhide HE] at hb3
                    obtain ⟨_, y1, y2, y3, hct⟩ := fits_item (rs := rs) (after := sa) (to := y) (width := width) (by rw [unhide HE]; exact hbad0)
                    rw [unhide HLEN] at y3
                    have hst := unhide HS
                    rw [if_neg h0] at hst
                    obtain ⟨m, rfl⟩ := Int.eq_ofNat_of_zero_le (show 0 ≤ y by omega)
                    have hmn : m < n := by omega
                    obtain ⟨bi, offi, r, rfl, hbli, hr, i0, i1, i2, i3, i4, i5, i6⟩ := (hR.next hb).at_ hmn
                    have hit := itAt_of hr
                    rw [Int.toNat_natCast] at hst hct
                    have hmk : markOf rs (m : Int) = (itAt rs m).mark := by simp [markOf]
                    rw [← hmk] at hst
                    have hbds := stepOf_bd hst
                    have H := hide (costSum_step (unhide HGO) hst)
                    rw [hit] at H hct hbds
                    obtain ⟨cst, HC⟩ : ∃ x, Hid (costOf bad r.cost = x) := ⟨_, rfl⟩
                    obtain ⟨L, HL⟩ : ∃ x, Hid (looksOf st bad = x) := ⟨_, rfl⟩
                    rw [unhide HC, unhide HL] at H hbds
                    have hcb := costOf_bd ⟨hbad0, hb3⟩ hct
                    rw [unhide HC] at hcb
                    obtain ⟨B, HBT⟩ : ∃ x, Hid (exMark ⟨sa, markOf rs sa, sl⟩ (markOf rs (m : Int)) + exLooks ⟨sa, markOf rs sa, sl⟩ L = x) := ⟨_, rfl⟩
                    rw [unhide HBT] at H
                    have hB0 := exMark_bd ⟨sa, markOf rs sa, sl⟩ (markOf rs (m : Int))
                    have hB1 := exLooks_bd ⟨sa, markOf rs sa, sl⟩ L
                    have hB2 : 0 ≤ B ∧ B ≤ 6000 := by rw [← unhide HBT]; omega
                    obtain ⟨t1, t2, t3, t4, t5, t6, t7, t8, t9, t10⟩ := hbds
                    have HBB : Hid (exMark ⟨sa, decide (0 ≤ sa) && (itAt rs sa.toNat).mark, sl⟩ (itAt rs m).mark + exLooks ⟨sa, decide (0 ≤ sa) && (itAt rs sa.toNat).mark, sl⟩ L = B) := by
                      show _ = _; rw [← hmk]; exact unhide HBT
                    have HCT := hide hct
                    clear HGO HE HS hst hr hit t1 t2 t3 t4 t5 t6 t9 t10 hB0 hB1 hct h0 hmk i0 i1 i2 i3 i4 i6
                    dsimp only at t7 t8
                    go_wp2_with (first
                      | (go_at_call 42; refine (c_looksOf' st bad ⟨hbad0, hb3⟩ _).mono ?_; rintro e w3 ⟨rfl, rfl⟩; rw [unhide HL])
                      | (go_at_call 43; refine (c_costOf' bad r.cost ⟨hbad0, hb3⟩ (unhide HCT) _).mono ?_; rintro e w3 ⟨rfl, rfl⟩; rw [unhide HC]))
                    refine (c_l8Between _ n c rs sa m sl L _ (hR.next hb) ⟨hsa0, hsa1⟩ hmn ⟨hsl0, hsl1⟩ ⟨t7, t8⟩).mono ?_
                    rw [unhide HBB]
                    rintro e w4 ⟨rfl, hb4⟩
                    replace hb := bnext hb hb4
                    clear hb4 HBB HBT HC HL i5
                    obtain ⟨hB20, hB21⟩ := hB2
                    obtain ⟨hcb0, hcb1⟩ := hcb
                    have hsm3 : sm + (cst + B) = sm + cst + B := by omega
                    rw [hsm3] at H
                    clear hsm3
                    go_wp2
                    go_roundw
                    case rel => exact ⟨k + 1, _, (m : Int), L, by omega, by go_num, rfl, rfl, rfl, by omega, by omega, t7, t8, by omega, by omega, H, hb⟩
                    case measure => simp [intOf] <;> omega
                · obtain rfl : k = j + 1 := by omega
                  have hgo2 := unhide hgo
                  rw [drop_end (by rw [unhide HLEN2]; exact Nat.le_refl _)] at hgo2
                  have H : Hid (X = some sm) := costSum_end hgo2
                  clear hgo hgo2
                  go_wp2
                  go_ret
                  rw [unhide HB, unhide H]
                  exact ⟨rfl, hb⟩
end Go.Proofs.Ytadcbigioldejaa
