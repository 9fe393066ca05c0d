/- Pages: the small functions' contracts; PagesCost. No condition. -/
import Derived.Test.YtpbccblenohhoaaPagesP
import Derived.OwnWalk
namespace Go.Proofs.Ytpbccblenohhoaa
open Go.RowKit
set_option linter.unusedVariables false

theorem c_in_b {n lo hi : Int} {b : Bool} (h : inB n lo hi = b) (w : World) :
    Calls Try.prog 38 #[.int .i64 n, .int .i64 lo, .int .i64 hi] w fun e w' => e = .returned (.bool b) ∧ w' = w := by
  rw [← h]; exact (c_in n lo hi w).mono (by rintro e w' ⟨rfl, rfl⟩; exact ⟨rfl, rfl⟩)
theorem c_l1In_b {n lo hi : Int} {b : Bool} (h : inB n lo hi = b) (w : World) :
    Calls Try.prog 33 #[.int .i64 n, .int .i64 lo, .int .i64 hi] w fun e w' => e = .returned (.bool b) ∧ w' = w := by
  rw [← h]; exact (c_l1In n lo hi w).mono (by rintro e w' ⟨rfl, rfl⟩; exact ⟨rfl, rfl⟩)
theorem c_rowsValid_b {A : Option Addr} {n c : Nat} {rs : List Row} {b : Bool} (h : rowsValid rs = b) (w : World) (hR : RowsAt w A n c rs) :
    Calls Try.prog 47 #[.slice A n c] w fun e w' => e = .returned (.bool b) ∧ Below w.heap.size w w' := by
  rw [← h]; exact c_rowsValid A n c rs w hR
theorem c_rowsValid_b' {A : Option Addr} {n c : Nat} {rs : List Row} {b : Bool} (h : rowsValid rs = b) (w : World) (hR : RowsAt w A n c rs) :
    Calls Try.prog 32 #[.slice A n c] w fun e w' => e = .returned (.bool b) ∧ Below w.heap.size w w' := by
  rw [← h]; exact c_rowsValid' A n c rs w hR
theorem c_isHeight_b {h : Int} {b : Bool} (hb : inB h 1 1000 = b) (w : World) :
    Calls Try.prog 51 #[.int .i64 h] w fun e w' => e = .returned (.bool b) ∧ w' = w := by
  rw [← hb]; exact (c_isHeight h w).mono (by rintro e w' ⟨rfl, rfl⟩; exact ⟨rfl, rfl⟩)
set_option maxHeartbeats 400000 in
theorem c_pageArguments {A : Option Addr} {n c : Nat} {rs : List Row} {h : Int} {b : Bool} (hb : argsOk rs h = b) (w : World) (hR : RowsAt w A n c rs) :
    Calls Try.prog 37 #[.slice A n c, .int .i64 h] w fun e w' => e = .returned (.bool b) ∧ Below w.heap.size w w' := by
  cases hv : rowsValid rs
  · have hb' : b = false := by rw [← hb]; simp [argsOk, hv]
    subst hb'
    clear hb
    go_enter Try.func37, Try.ntmps37
    go_wp2_with fail
    refine (c_rowsValid_b hv _ hR).mono ?_
    rintro e w1 ⟨rfl, hb1⟩
    go_wp2
    go_ret
    exact ⟨rfl, hb1⟩
  · have hb' : inB h 1 1000 = b := by rw [← hb]; simp [argsOk, hv]
    clear hb
    go_enter Try.func37, Try.ntmps37
    go_wp2_with fail
    refine (c_rowsValid_b hv _ hR).mono ?_
    rintro e w1 ⟨rfl, hb1⟩
    go_wp2_with fail
    refine (c_isHeight_b hb' _).mono ?_
    rintro e w2 ⟨rfl, rfl⟩
    cases b
    all_goals
      go_wp2
      go_ret
      exact ⟨rfl, hb1⟩
/-- A part of a slice of rows, its address under one name. -/
theorem rows_mid {w : World} {A : Option Addr} {n c i j : Nat} {rs : List Row} (h : RowsAt w A n c rs) (hi : i ≤ j) (hj : j ≤ n) :
    ∃ A1, RowsAt w A1 (j - i) (c - i) ((rs.drop i).take (j - i)) ∧ ∀ wx : World, (Instr.slice 26 (.slice A n c) (some (.int .i64 (i : Int))) (some (.int .i64 (j : Int))) none).run Try.prog wx = .ok (.slice A1 (j - i) (c - i)) wx := by
  have hbd := h.bd
  refine ⟨if c = i then A else A.map (fun x => x.add (i * 4)), ?_, fun wx => ?_⟩
  · exact (h.cut hi hj).congrA (fun hn => by rw [if_neg (by omega)])
  · have h1 : j ≤ c := by omega
    simp [go_sem, hi, h1]
set_option maxHeartbeats 1000000 in
theorem c_pageCost (A : Option Addr) (n c : Nat) (rs : List Row) (h : Int) (a z : Nat) (w : World) (hR : RowsAt w A n c rs) (hv : rs.all rowValid = true) (hl : n ≤ 30) (hh : 1 ≤ h ∧ h ≤ 1000) (haz : a < z) (hz : z ≤ n) :
    Calls Try.prog 39 #[.slice A n c, .int .i64 h, .int .i64 a, .int .i64 z] w fun e w' => e = .returned (.int .i64 (pCost rs h a z)) ∧ Below w.heap.size w w' := by
  have hlen := hR.len
  have hbd := hR.bd
  obtain ⟨hh1, hh2⟩ := hh
  obtain ⟨A1, hR1, hsl0⟩ := rows_mid hR (Nat.le_of_lt haz) hz
  have hsl := fun wx => hsl0 wx
  have hs := seg_bd hv (by omega) a z
  have hpk := pageOk_eq rs h haz (by omega)
  obtain ⟨s, HS⟩ : ∃ s, Hid (s = seg rs a z) := ⟨_, rfl⟩
  have hpc : pCost rs h a z = if pageOk rs h a z then (if z = rs.length then 0 else (h - s) * (h - s)) else -1 := by rw [pCost, ← unhide HS]
  rw [← unhide HS] at hs hpk
  obtain ⟨hs0, hs1⟩ := hs
  have hzl : (decide (z = rs.length)) = decide (z = n) := by rw [hlen]
  rw [hzl] at hpk
  have HPK := hide hpk
  have HPC := hide hpc
  have HLEN := hide hlen
  have hvs : ((rs.drop a).take (z - a)).all rowValid = true := all_sub hv (fun r hr => List.mem_of_mem_drop (List.mem_of_mem_take hr))
  clear hpk hpc hlen hzl hsl0
  go_enter Try.func39, Try.ntmps39
  go_wp2_with fail
  refine (c_sumH A1 (z - a) (c - a) _ _ hR1 hvs (by omega)).mono ?_
  rintro e w1 ⟨he, hb1⟩
  have hse : sumH ((rs.drop a).take (z - a)) = s := (unhide HS).symm
  rw [hse] at he
  subst he
  clear hse hsl hR1 hvs
  obtain ⟨b, off, r, rfl, hbl, hr, h0, h1, h2, h3⟩ := (hR.next hb1).at_ (k := z - 1) (by omega)
  have hk : keepAt rs (z - 1) = r.k := keepAt_get hr
  have HK := hide hk
  clear hr hk h0 h2 h3
  by_cases hsh : s ≤ h
  · by_cases hzn : z = n
    · subst hzn
      have hq : ((z : Int) == (z : Int)) = true := by simp
      have H : Hid (pCost rs h a z = 0) := by show _ = _; rw [unhide HPC, unhide HPK]; simp [hsh, unhide HLEN]
      go_wp2
      go_ret
      exact ⟨by rw [unhide H] <;> rfl, hb1⟩
    · have hq : ((z : Int) == (n : Int)) = false := by simp; omega
      have hzn2 : z < n := by omega
      cases hrk : r.k
      · have H : Hid (pCost rs h a z = (h - s) * (h - s)) := by
          show _ = _
          rw [unhide HPC, unhide HPK, unhide HK, hrk, if_neg (show ¬ z = rs.length by rw [unhide HLEN]; exact hzn)]; simp [hsh]
        have hm0 : 0 ≤ (h - s) * (h - s) := Int.mul_nonneg (by omega) (by omega)
        have hm1 : (h - s) * (h - s) ≤ 1000 * 1000 := Int.mul_le_mul (by omega) (by omega) (by omega) (by omega)
        rw [hrk] at h1
        go_wp2
        go_ret
        exact ⟨by rw [unhide H] <;> rfl, hb1⟩
      · have H : Hid (pCost rs h a z = -1) := by
          show _ = _
          rw [unhide HPC, unhide HPK, unhide HK, hrk]; simp [hzn]
        rw [hrk] at h1
        go_wp2
        go_ret
        exact ⟨by rw [unhide H] <;> rfl, hb1⟩
  · have H : Hid (pCost rs h a z = -1) := by show _ = _; rw [unhide HPC, unhide HPK]; simp [hsh]
    clear h1
    go_wp2
    go_ret
    exact ⟨by rw [unhide H] <;> rfl, hb1⟩

theorem args_parts {rs : List Row} {h : Int} (e : argsOk rs h = true) : rowsValid rs = true ∧ rs.all rowValid = true ∧ rs.length ≤ 30 ∧ 1 ≤ h ∧ h ≤ 1000 := by
  simp only [argsOk, Bool.and_eq_true, inB_iff] at e
  exact ⟨e.1, (rowsValid_iff.1 e.1).1, (rowsValid_iff.1 e.1).2, e.2.1, e.2.2⟩
set_option maxHeartbeats 1600000 in
theorem c_pagesCost (A : Option Addr) (n c : Nat) (rs : List Row) (h : Int) (A2 : Option Addr) (n2 c2 : Nat) (es : List Int) (w : World) (hR : RowsAt w A n c rs) (hI : IntsAt w A2 n2 c2 es) :
    Calls Try.prog 15 #[.slice A n c, .int .i64 h, .slice A2 n2 c2] w fun e w' => e = .returned (.int .i64 (pagesCost rs h es)) ∧ Below w.heap.size w w' := by
  have hlen := hR.len
  have hbd := hR.bd
  have hlen2 := hI.len
  have hbd2 := hI.bd
  cases h1 : argsOk rs h
  · have H : Hid (pagesCost rs h es = -1) := by show _ = _; simp [pagesCost, h1]
    go_enter Try.func15, Try.ntmps15
    go_wp2_with fail
    refine (c_pageArguments h1 _ hR).mono ?_
    rintro e w1 ⟨rfl, hb1⟩
    go_wp2
    go_ret
    exact ⟨by rw [unhide H] <;> rfl, hb1⟩
  · obtain ⟨hva, hv, hl, hh1, hh2⟩ := args_parts h1
    have H : Hid (pagesCost rs h es = (costGo rs h 0 es).getD (-1)) := by show _ = _; simp [pagesCost, h1]
    have HLEN := hide hlen
    have HLEN2 := hide hlen2
    have HV := hide hv
    have hn30 : n ≤ 30 := by omega
    clear hva hv hl hlen hlen2
    go_enter Try.func15, Try.ntmps15
    go_wp2_with fail
    refine (c_pageArguments h1 _ hR).mono ?_
    rintro e w1 ⟨rfl, hb1⟩
    clear h1
    go_wp2
    go_loopw [7, 8, 18] (fun s a i wr => ∃ (k aN : Nat) (sm : Int), k ≤ n2 ∧ i = .int .i64 k ∧ aN ≤ n ∧ a = .int .i64 aN ∧ s = .int .i64 sm ∧ 0 ≤ sm ∧ sm ≤ 1000000 * (aN : Int) ∧ Hid (costGo rs h 0 es = (costGo rs h aN (es.drop k)).map (sm + ·)) ∧ Below w.heap.size w wr) (fun _ _ i _ => n2 - (intOf i).toNat)
    case atStart => exact ⟨0, 0, 0, Nat.zero_le _, rfl, Nat.zero_le _, rfl, rfl, by omega, by omega, by show _ = _; simp, hb1⟩
    case round =>
      clear hb1
      obtain ⟨k, aN, sm, hk, rfl, ha, rfl, rfl, hs0, hs1, hgo, hb⟩ := hrel
      by_cases hlt : k < n2
      · obtain ⟨b, off, x, rfl, hbl, hx, hc⟩ := (hI.next hb).at_ hlt
        have hgo2 := unhide hgo
        rw [drop_get hx, costGo] at hgo2
        clear hx hgo
        cases hin : inB x ((aN : Int) + 1) (n : Int)
        · have HN : Hid (pagesCost rs h es = -1) := by
            show _ = _; rw [unhide H, hgo2, unhide HLEN, hin]; rfl
          clear hgo2
          go_wp2_with fail
          refine (c_in_b hin _).mono ?_
          rintro e w2 ⟨rfl, rfl⟩
          go_wp2
          go_ret
          exact ⟨by rw [unhide HN] <;> rfl, hb⟩
        · obtain ⟨hx1, hx2⟩ := inB_iff.1 hin
          obtain ⟨z, rfl⟩ := Int.eq_ofNat_of_zero_le (show 0 ≤ x by omega)
          have hz1 : aN < z := by omega
          have hz2 : z ≤ n := by omega
          have hpb := pCost_bd (unhide HV) (by rw [unhide HLEN]; exact hn30) ⟨hh1, hh2⟩ hz1 (by rw [unhide HLEN]; exact hz2)
          have hpn := pCost_nonneg (rs := rs) (h := h) (a := aN) (z := z)
          rw [unhide HLEN, hin, Bool.true_and, Int.toNat_natCast] at hgo2
          obtain ⟨p, HP⟩ : ∃ p, Hid (p = pCost rs h aN z) := ⟨_, rfl⟩
          rw [← unhide HP] at hpb hpn hgo2
          obtain ⟨hp1, hp2⟩ := hpb
          cases hok : pageOk rs h aN z
          · have hp0 : p < 0 := by
              rcases Int.lt_or_le p 0 with h | h
              · exact h
              · rw [hpn.1 h] at hok; cases hok
            have HN : Hid (pagesCost rs h es = -1) := by
              show _ = _; rw [unhide H, hgo2, hok]; rfl
            clear hgo2 hpn hok
            go_wp2_with fail
            refine (c_in_b hin _).mono ?_
            rintro e w2 ⟨rfl, rfl⟩
            go_wp2_with fail
            refine (c_pageCost A n c rs h aN z _ (hR.next hb) (unhide HV) hn30 ⟨hh1, hh2⟩ hz1 hz2).mono ?_
            rintro e w3 ⟨he, hb3⟩
            rw [← unhide HP] at he
            subst he
            go_wp2
            go_ret
            exact ⟨by rw [unhide HN] <;> rfl, bnext hb hb3⟩
          · have hp0 : 0 ≤ p := hpn.2 hok
            have hgo3 : costGo rs h 0 es = (costGo rs h z (es.drop (k + 1))).map (sm + p + ·) := by
              rw [hgo2, hok, if_pos rfl, Option.map_map]
              congr 1; funext t; simp [Int.add_assoc]
            have HG := hide hgo3
            clear hgo2 hgo3 hpn hok
            go_wp2_with fail
            refine (c_in_b hin _).mono ?_
            rintro e w2 ⟨rfl, rfl⟩
            go_wp2_with fail
            refine (c_pageCost A n c rs h aN z _ (hR.next hb) (unhide HV) hn30 ⟨hh1, hh2⟩ hz1 hz2).mono ?_
            rintro e w3 ⟨he, hb3⟩
            rw [← unhide HP] at he
            subst he
            clear hin
            go_wp2
            go_roundw
            case rel => exact ⟨k + 1, z, sm + p, by omega, by go_num, hz2, rfl, rfl, by omega, by omega, HG, bnext hb hb3⟩
            case measure => simp [intOf]; omega
      · have hgo2 := unhide hgo
        rw [drop_end (by rw [unhide HLEN2]; omega), costGo, unhide HLEN] at hgo2
        clear hgo
        by_cases han : aN = n
        · subst han
          have hq : ((aN : Int) != (aN : Int)) = false := by simp
          have HN : Hid (pagesCost rs h es = sm) := by show _ = _; rw [unhide H, hgo2]; simp
          clear hgo2
          go_wp2
          go_ret
          exact ⟨by rw [unhide HN] <;> rfl, hb⟩
        · have hq : ((aN : Int) != (n : Int)) = true := by simp; omega
          have HN : Hid (pagesCost rs h es = -1) := by show _ = _; rw [unhide H, hgo2, if_neg han]; rfl
          clear hgo2
          go_wp2
          go_ret
          exact ⟨by rw [unhide HN] <;> rfl, hb⟩
end Go.Proofs.Ytpbccblenohhoaa
