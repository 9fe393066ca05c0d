/- Pages: the small functions' contracts; PagesCost. No condition. -/
import Derived.Test.YtfflnkkhemaanaaPagesP
import Derived.OwnWalk
namespace Go.Proofs.Ytfflnkkhemaanaa
open Go.RowKit
set_option linter.unusedVariables false

theorem c_in_b {n lo hi : Int} {b : Bool} (h : inB n lo hi = b) (w : World) :
    Calls Try.prog 40 #[.int .i64 n, .int .i64 lo, .int .i64 hi] w fun e w' => e = .returned (.bool b) ∧ w' = w := by
  rw [← h]; exact (c_in n lo hi w).mono (by rintro e w' ⟨rfl, rfl⟩; exact ⟨rfl, rfl⟩)
theorem c_l1In_b {n lo hi : Int} {b : Bool} (h : inB n lo hi = b) (w : World) :
    Calls Try.prog 43 #[.int .i64 n, .int .i64 lo, .int .i64 hi] w fun e w' => e = .returned (.bool b) ∧ w' = w := by
  rw [← h]; exact (c_l1In n lo hi w).mono (by rintro e w' ⟨rfl, rfl⟩; exact ⟨rfl, rfl⟩)
theorem c_rowsValid_b {A : Option Addr} {n c : Nat} {rs : List Row} {b : Bool} (h : rowsValid rs = b) (w : World) (hR : RowsAt w A n c rs) :
    Calls Try.prog 39 #[.slice A n c] w fun e w' => e = .returned (.bool b) ∧ Below w.heap.size w w' := by
  rw [← h]; exact c_rowsValid A n c rs w hR
theorem c_rowsValid_b' {A : Option Addr} {n c : Nat} {rs : List Row} {b : Bool} (h : rowsValid rs = b) (w : World) (hR : RowsAt w A n c rs) :
    Calls Try.prog 42 #[.slice A n c] w fun e w' => e = .returned (.bool b) ∧ Below w.heap.size w w' := by
  rw [← h]; exact c_rowsValid' A n c rs w hR
theorem c_isHeight_b {h : Int} {b : Bool} (hb : inB h 1 1000 = b) (w : World) :
    Calls Try.prog 62 #[.int .i64 h] w fun e w' => e = .returned (.bool b) ∧ w' = w := by
  rw [← hb]; exact (c_isHeight h w).mono (by rintro e w' ⟨rfl, rfl⟩; exact ⟨rfl, rfl⟩)
set_option maxHeartbeats 400000 in
theorem c_pageArguments {A : Option Addr} {n c : Nat} {rs : List Row} {h : Int} {b : Bool} (hb : argsOk rs h = b) (w : World) (hR : RowsAt w A n c rs) :
    Calls Try.prog 52 #[.slice A n c, .int .i64 h] w fun e w' => e = .returned (.bool b) ∧ Below w.heap.size w w' := by
  cases hv : rowsValid rs
  · have hb' : b = false := by rw [← hb]; simp [argsOk, hv]
    subst hb'
    clear hb
    go_enter Try.func52, Try.ntmps52
    go_wp2_with fail
    refine (c_rowsValid_b hv _ hR).mono ?_
    rintro e w1 ⟨rfl, hb1⟩
    go_wp2
    go_ret
    exact ⟨rfl, hb1⟩
  · have hb' : inB h 1 1000 = b := by rw [← hb]; simp [argsOk, hv]
    clear hb
    go_enter Try.func52, Try.ntmps52
    go_wp2_with fail
    refine (c_rowsValid_b hv _ hR).mono ?_
    rintro e w1 ⟨rfl, hb1⟩
    go_wp2_with fail
    refine (c_isHeight_b hb' _).mono ?_
    rintro e w2 ⟨rfl, rfl⟩
    cases b
    all_goals
      go_wp2
      go_ret
      exact ⟨rfl, hb1⟩
/-- A part of a slice of rows, its address under one name. -/
theorem rows_mid {w : World} {A : Option Addr} {n c i j : Nat} {rs : List Row} (h : RowsAt w A n c rs) (hi : i ≤ j) (hj : j ≤ n) :
    ∃ A1, RowsAt w A1 (j - i) (c - i) ((rs.drop i).take (j - i)) ∧ ∀ wx : World, (Instr.slice 23 (.slice A n c) (some (.int .i64 (i : Int))) (some (.int .i64 (j : Int))) none).run Try.prog wx = .ok (.slice A1 (j - i) (c - i)) wx := by
  have hbd := h.bd
  refine ⟨if c = i then A else A.map (fun x => x.add (i * 4)), ?_, fun wx => ?_⟩
  · exact (h.cut hi hj).congrA (fun hn => by rw [if_neg (by omega)])
  · have h1 : j ≤ c := by omega
    simp [go_sem, hi, h1]
set_option maxHeartbeats 1000000 in
theorem c_pageCost (A : Option Addr) (n c : Nat) (rs : List Row) (h : Int) (a z : Nat) (w : World) (hR : RowsAt w A n c rs) (hv : rs.all rowValid = true) (hl : n ≤ 30) (hh : 1 ≤ h ∧ h ≤ 1000) (haz : a < z) (hz : z ≤ n) :
    Calls Try.prog 54 #[.slice A n c, .int .i64 h, .int .i64 a, .int .i64 z] w fun e w' => e = .returned (.int .i64 (pCost rs h a z)) ∧ Below w.heap.size w w' := by
  have hlen := hR.len
  have hbd := hR.bd
  obtain ⟨hh1, hh2⟩ := hh
  obtain ⟨A1, hR1, hsl0⟩ := rows_mid hR (Nat.le_of_lt haz) hz
  have hsl := fun wx => hsl0 wx
  have hs := seg_bd hv (by omega) a z
  have hpk := pageOk_eq rs h haz (by omega)
  obtain ⟨s, HS⟩ : ∃ s, Hid (s = seg rs a z) := ⟨_, rfl⟩
  have hpc : pCost rs h a z = if pageOk rs h a z then (if z = rs.length then 0 else (h - s) * (h - s)) else -1 := by rw [pCost, ← unhide HS]
  rw [← unhide HS] at hs hpk
  obtain ⟨hs0, hs1⟩ := hs
  have hzl : (decide (z = rs.length)) = decide (z = n) := by rw [hlen]
  rw [hzl] at hpk
  have HPK := hide hpk
  have HPC := hide hpc
  have HLEN := hide hlen
  have hvs : ((rs.drop a).take (z - a)).all rowValid = true := all_sub hv (fun r hr => List.mem_of_mem_drop (List.mem_of_mem_take hr))
  clear hpk hpc hlen hzl hsl0
  go_enter Try.func54, Try.ntmps54
  go_wp2_with fail
  refine (c_sumH A1 (z - a) (c - a) _ _ hR1 hvs (by omega)).mono ?_
  rintro e w1 ⟨he, hb1⟩
  have hse : sumH ((rs.drop a).take (z - a)) = s := (unhide HS).symm
  rw [hse] at he
  subst he
  clear hse hsl hR1 hvs
  obtain ⟨b, off, r, rfl, hbl, hr, h0, h1, h2, h3⟩ := (hR.next hb1).at_ (k := z - 1) (by omega)
  have hk : keepAt rs (z - 1) = r.k := keepAt_get hr
  have HK := hide hk
  clear hr hk h0 h2 h3
  by_cases hsh : s ≤ h
  · by_cases hzn : z = n
    · subst hzn
      have hq : ((z : Int) == (z : Int)) = true := by simp
      have H : Hid (pCost rs h a z = 0) := by show _ = _; rw [unhide HPC, unhide HPK]; simp [hsh, unhide HLEN]
      go_wp2
      go_ret
      exact ⟨by rw [unhide H] <;> rfl, hb1⟩
    · have hq : ((z : Int) == (n : Int)) = false := by simp; omega
      have hzn2 : z < n := by omega
      cases hrk : r.k
      · have H : Hid (pCost rs h a z = (h - s) * (h - s)) := by
          show _ = _
          rw [unhide HPC, unhide HPK, unhide HK, hrk, if_neg (show ¬ z = rs.length by rw [unhide HLEN]; exact hzn)]; simp [hsh]
        have hm0 : 0 ≤ (h - s) * (h - s) := Int.mul_nonneg (by omega) (by omega)
        have hm1 : (h - s) * (h - s) ≤ 1000 * 1000 := Int.mul_le_mul (by omega) (by omega) (by omega) (by omega)
        rw [hrk] at h1
        go_wp2
        go_ret
        exact ⟨by rw [unhide H] <;> rfl, hb1⟩
      · have H : Hid (pCost rs h a z = -1) := by
          show _ = _
          rw [unhide HPC, unhide HPK, unhide HK, hrk]; simp [hzn]
        rw [hrk] at h1
        go_wp2
        go_ret
        exact ⟨by rw [unhide H] <;> rfl, hb1⟩
  · have H : Hid (pCost rs h a z = -1) := by show _ = _; rw [unhide HPC, unhide HPK]; simp [hsh]
    clear h1
    go_wp2
    go_ret
    exact ⟨by rw [unhide H] <;> rfl, hb1⟩

theorem args_parts {rs : List Row} {h : Int} (e : argsOk rs h = true) : rowsValid rs = true ∧ rs.all rowValid = true ∧ rs.length ≤ 30 ∧ 1 ≤ h ∧ h ≤ 1000 := by
  simp only [argsOk, Bool.and_eq_true, inB_iff] at e
  exact ⟨e.1, (rowsValid_iff.1 e.1).1, (rowsValid_iff.1 e.1).2, e.2.1, e.2.2⟩
end Go.Proofs.Ytfflnkkhemaanaa
