/- BreaksCost on both sides: contracts. No condition. -/
import Derived.Test.YtadcbigioldejaaCost2
import Derived.Test.YtadcbigioldejaaFirst2
namespace Go.Proofs.Ytadcbigioldejaa
open Go.RowKit
set_option linter.unusedVariables false

theorem brOk_cases {rs : List Item} {width most : Int} {bs : List Int} : brOk rs width most bs = true ↔ argsB rs width most = true ∧ bs.getLast? = some ((rs.length : Int) - 1) := by
  simp [brOk]
  intro _ h hn
  subst hn
  simp at h
theorem brCost_not {rs : List Item} {width most : Int} {bs : List Int} (h : brOk rs width most bs = false) : brCost rs width most bs = -1 := by simp [brCost, h]
theorem brCost_ok {rs : List Item} {width most : Int} {bs : List Int} (h : brOk rs width most bs = true) : brCost rs width most bs = (costSum rs width most St.start bs).getD (-1) := by simp [brCost, h]
theorem last_get {bs : List Int} {j : Nat} {x : Int} (hl : bs.length = j + 1) (h : bs[j]? = some x) : bs.getLast? = some x := by
  rw [List.getLast?_eq_getElem?, hl]; exact h
theorem brOk_last {rs : List Item} {width most : Int} {bs : List Int} {x : Int} (hl : bs.getLast? = some x) (hx : ¬ x = (rs.length : Int) - 1) : brOk rs width most bs = false := by
  cases h : brOk rs width most bs
  · rfl
  · have := (brOk_cases.1 h).2; rw [hl] at this; exact absurd (Option.some.inj this) hx
theorem brOk_args {rs : List Item} {width most : Int} {bs : List Int} (h : argsB rs width most = false) : brOk rs width most bs = false := by simp [brOk, h]

set_option maxRecDepth 100000 in
set_option maxHeartbeats 3200000 in
theorem c_breaksCost (A : Option Addr) (n c : Nat) (rs : List Item) (width most : Int) (A2 : Option Addr) (n2 c2 : Nat) (bs : List Int) (w : World) (hR : ItemsAt w A n c rs) (hI : IntsAt w A2 n2 c2 bs) (hn2 : n2 ≤ 100000000) :
    Calls Try.prog 24 #[.slice A n c, .int .i64 width, .int .i64 most, .slice A2 n2 c2] w fun e w' => e = .returned (.int .i64 (brCost rs width most bs)) ∧ Below w.heap.size w w' := by
  have hlen := hR.len
  have hbd := hR.bd
  have hbd2 := hI.bd
  have hlen2 := hI.len
  have HLEN := hide hlen
  have HLEN2 := hide hlen2
  clear hlen hlen2
  go_enter Try.func24, Try.ntmps24
  go_wp2_with fail
  refine (c_lineArguments A n c rs width most _ hR).mono ?_
  rintro e w1 ⟨rfl, hb1⟩
  cases hargs : argsB rs width most
  · have H := hide (brCost_not (brOk_args (bs := bs) hargs))
    go_wp2
    go_ret
    exact ⟨by rw [unhide H] <;> rfl, hb1⟩
  · rcases n2 with _ | j
    · obtain rfl : bs = [] := List.eq_nil_of_length_eq_zero (unhide HLEN2)
      have H : Hid (brCost rs width most [] = -1) := brCost_not (by simp [brOk])
      go_wp2
      go_ret
      exact ⟨by rw [unhide H] <;> rfl, hb1⟩
    · obtain ⟨b, off, x, rfl, hbl, hx, hcx⟩ := (hI.next hb1).at_ (k := j) (by omega)
      have hlast := last_get (unhide HLEN2) hx
      have hz : (((j + 1 : Nat) : Int) == 0) = false := by simp <;> omega
      have hz2 : ((j : Int) + 1 == 0) = false := by simp <;> omega
      by_cases hxn : x = (n : Int) - 1
      case' neg =>
        have H : Hid (brCost rs width most bs = -1) := brCost_not (brOk_last hlast (by rw [unhide HLEN]; exact hxn))
        have hne : (x != (n : Int) - 1) = true := by simpa using hxn
        clear hx hlast hxn
        go_wp2
        go_ret
        exact ⟨by rw [unhide H] <;> rfl, hb1⟩
      case' pos =>
        have hok : brOk rs width most bs = true := brOk_cases.2 ⟨hargs, by rw [hlast, hxn, unhide HLEN]⟩
        have HB : Hid (brCost rs width most bs = (costSum rs width most St.start bs).getD (-1)) := brCost_ok hok
        obtain ⟨X, HX⟩ : ∃ X, Hid (X = costSum rs width most St.start bs) := ⟨_, rfl⟩
        rw [← unhide HX] at HB
        have hne : (x != (n : Int) - 1) = false := by simpa using hxn
        have hv := (argsB_iff.1 hargs).1
        have hn0 := (argsB_iff.1 hargs).2.1
        have hn60 := (itemsValid_iff.1 hv).2
        rw [unhide HLEN] at hn60 hn0
        clear hx hlast hxn hok hargs hv
        go_wp2
        have q := Blk.new w1 64 #[.int .i64 (-1), .bool false, .int .i64 0]
        have hb2 := bmk hb1 (.cells #[.int .i64 (-1), .bool false, .int .i64 0] 64)
        have hgB := hb1.size
        obtain ⟨gB, HG⟩ : ∃ g, Hid (g = w1.heap.size) := ⟨_, rfl⟩
        rw [← unhide HG] at q hgB ⊢
        clear hcx
        go_loopw [9, 40] (fun sv i wr => ∃ (k : Nat) (sm sa : Int) (sk : Bool) (sl : Int), k ≤ j + 1 ∧ i = .int .i64 k ∧ sv = .int .i64 sm ∧ -1 ≤ sa ∧ sa < n ∧ 0 ≤ sl ∧ sl ≤ 3 ∧ 0 ≤ sm ∧ sm ≤ 210006000 * (sa + 1) ∧ Hid (X = (costSum rs width most ⟨sa, sk, sl⟩ (bs.drop k)).map (sm + ·)) ∧ Blk wr gB 64 #[.int .i64 sa, .bool sk, .int .i64 sl] ∧ Below w.heap.size w wr) (fun _ i _ => j + 1 - (intOf i).toNat)
        case atStart => exact ⟨0, 0, -1, false, 0, by omega, rfl, rfl, by omega, by omega, by omega, by omega, by omega, by omega, by show _ = _; rw [unhide HX]; simp [St.start], q, hb2⟩
        case round =>
          clear q hb2 HX
          obtain ⟨k, sm, sa, sk, sl, hk, rfl, rfl, hsa0, hsa1, hsl0, hsl1, hsm0, hsm1, hgo, q, hb⟩ := hrel
          have p0 : wr.cell? ⟨gB, 0, none⟩ = some (.int .i64 sa) := q.cell 0
          have p1 : wr.cell? ⟨gB, 1, none⟩ = some (.bool sk) := q.cell 1
          have p2 : wr.cell? ⟨gB, 2, none⟩ = some (.int .i64 sl) := q.cell 2
          by_cases hlt : k < j + 1
          · obtain ⟨b1, off1, y, e1, hbl1, hy, hcy⟩ := (hI.next hb).at_ hlt
            cases e1
            have hgo2 := unhide hgo
            rw [drop_get hy] at hgo2
            have HGO := hide hgo2
            clear hgo hy hgo2
            obtain ⟨K, ea, ek, el, HE⟩ : ∃ K ea ek el, Hid (stepOut rs width most ⟨sa, sk, sl⟩ y = (K, ⟨ea, ek, el⟩)) := ⟨_, _, _, _, rfl⟩
            go_wp2_with fail
            refine (c_lineCost _ n c rs width most sa sk sl y _ (hR.next hb) ⟨hsl0, hsl1⟩).mono ?_
            rw [unhide HE]
            rintro e w2 ⟨rfl, hb2⟩
            have q2 := q.next hb2
            have hbb := bnext hb hb2
            have u2 := q2.alloc (.cells #[.int .i64 ea, .bool ek, .int .i64 el] 64)
            have hb3 := bmk (bnext hb hb2) (.cells #[.int .i64 ea, .bool ek, .int .i64 el] 64)
            have hlt2 : gB < w2.heap.size := q2.lt
            clear q hb hb2 p0 p1 p2
            by_cases h0 : K < 0
            · have H : Hid (X = none) := costSum_stop (unhide HGO) (stepOut_none (by rw [unhide HE]; exact h0))
              clear HGO HE u2 q2
              go_wp2
              go_ret
              rw [unhide HB, unhide H]
              exact ⟨rfl, hb3⟩
            · have hst := stepOut_some (rs := rs) (width := width) (most := most) (s := ⟨sa, sk, sl⟩) (to := y) (by rw [unhide HE]; dsimp only; omega)
              rw [unhide HE] at hst
              obtain ⟨t1, t2, t3, t4, t5, t6, t7, t8, t9, t10⟩ := stepOf_bd hst
              dsimp only at t3 t4 t5 t7 t8 t9
              subst t3
              rw [unhide HLEN] at t6
              have H : Hid (X = (costSum rs width most ⟨ea, ek, el⟩ (bs.drop (k + 1))).map (sm + K + ·)) := costSum_step (unhide HGO) hst
              have c0 : w2.cell? ⟨gB, 0, none⟩ = some (.int .i64 sa) := q2.cell 0
              have c1 : w2.cell? ⟨gB, 1, none⟩ = some (.bool sk) := q2.cell 1
              have c2 : w2.cell? ⟨gB, 2, none⟩ = some (.int .i64 sl) := q2.cell 2
              have f0 := q2.frozen 0
              have f1 := q2.frozen 1
              have f2 := q2.frozen 2
              have v2 := (((q2.set_ 0 (.int .i64 ea)).set_ 1 (.bool ek)).set_ 2 (.int .i64 el)).alloc (.cells #[.int .i64 ea, .bool ek, .int .i64 el] 64)
              have hb4 := bmk (((hbb.setCell (p := ⟨gB, 0, none⟩) hgB (.int .i64 ea)).setCell (p := ⟨gB, 1, none⟩) hgB (.bool ek)).setCell (p := ⟨gB, 2, none⟩) hgB (.int .i64 el)) (.cells #[.int .i64 ea, .bool ek, .int .i64 el] 64)
              clear HGO HE hst u2 q2 hb3 t9 t10
              go_wp2
              go_roundw
              case rel => exact ⟨k + 1, sm + K, ea, ek, el, by omega, by go_num, rfl, by omega, by omega, t7, t8, by omega, by omega, H, v2, hb4⟩
              case measure => simp [intOf] <;> omega
          · obtain rfl : k = j + 1 := by omega
            have hgo2 := unhide hgo
            rw [drop_end (by rw [unhide HLEN2]; exact Nat.le_refl _)] at hgo2
            have H : Hid (X = some sm) := costSum_end hgo2
            clear hgo hgo2
            go_wp2
            go_ret
            rw [unhide HB, unhide H]
            exact ⟨rfl, hb⟩
end Go.Proofs.Ytadcbigioldejaa
