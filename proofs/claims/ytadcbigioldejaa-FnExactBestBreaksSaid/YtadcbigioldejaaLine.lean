/- Places where a line may end, and where it begins: contracts. No condition. -/
import Derived.Test.YtadcbigioldejaaBad
import Derived.Test.YtadcbigioldejaaItemV
import Derived.Test.YtadcbigioldejaaItemW
import Derived.Deep.QuietTactic
namespace Go.Proofs.Ytadcbigioldejaa
open Go.RowKit
set_option linter.unusedVariables false

theorem mayB_out {rs : List Item} {n : Nat} {k : Int} (hl : rs.length = n) (h : inB k 0 ((n : Int) - 1) = false) : mayB rs k = false := by
  rw [inB_not] at h
  cases hm : mayB rs k
  · rfl
  · have := mayB_bd hm; omega
theorem breakB_glue0 {rs : List Item} {r : Item} (h : rs[0]? = some r) (hk : r.kind = 2) : breakB rs 0 = false := by
  simp [breakB, itAt_of h, hk]
theorem breakB_glue {rs : List Item} {m : Nat} {r q : Item} (h : rs[m + 1]? = some r) (hk : r.kind = 2) (hq : rs[m]? = some q) : breakB rs (m + 1) = decide (q.kind = 1) := by
  have := get_lt h
  simp [breakB, itAt_of h, hk, itAt_of hq, this]
theorem breakB_break {rs : List Item} {m : Nat} {r : Item} (h : rs[m]? = some r) (hk : ¬ r.kind = 2) : breakB rs m = (decide (r.kind = 3) && decide (r.cost < 10000)) := by
  have := get_lt h
  simp [breakB, itAt_of h, hk, this]

set_option maxHeartbeats 800000 in
theorem c_mayBreak (A : Option Addr) (n c : Nat) (rs : List Item) (k : Int) (w : World) (hR : ItemsAt w A n c rs) :
    Calls Try.prog 69 #[.slice A n c, .int .i64 k] w fun e w' => e = .returned (.bool (mayB rs k)) ∧ Below w.heap.size w w' := by
  have hlen := hR.len
  have hbd := hR.bd
  cases hin : inB k 0 ((n : Int) - 1)
  · have H : Hid (mayB rs k = false) := mayB_out hlen hin
    clear hlen
    go_enter Try.func69, Try.ntmps69
    go_wp2_with (go_at_call 41; refine (c_in _ _ _ _).mono ?_; rintro e w' ⟨rfl, rfl⟩)
    go_ret
    exact ⟨by rw [unhide H] <;> rfl, Below.refl _ _⟩
  · obtain ⟨h0, h1⟩ := inB_iff.1 hin
    obtain ⟨m, rfl⟩ := Int.eq_ofNat_of_zero_le h0
    have hm : m < n := by omega
    rw [mayB_nat]
    obtain ⟨b, off, r, rfl, hb, hr, q0, q1, q2, q3, q4, q5, q6⟩ := hR.at_ hm
    clear q1 q2 q3 q4 q6
    clear hlen
    by_cases hk : r.kind = 2
    · have q0' : w.cell? ⟨b, off + m * 7, none⟩ = some (.int .i64 2) := by rw [q0, hk]
      clear q0 q5
      rcases m with _ | j
      · have q00 : w.cell? ⟨b, off, none⟩ = some (.int .i64 2) := by simpa using q0'
        have hin0 : inB 0 0 ((n : Int) - 1) = true := hin
        have H : Hid (breakB rs 0 = false) := breakB_glue0 hr hk
        clear hr hk
        go_enter Try.func69, Try.ntmps69
        go_wp2_with (go_at_call 41; refine (c_in _ _ _ _).mono ?_; rintro e w' ⟨rfl, rfl⟩)
        go_ret
        exact ⟨by rw [unhide H] <;> rfl, Below.refl _ _⟩
      · obtain ⟨b', off', q, he, hb', hq, p0, _⟩ := hR.at_ (k := j) (by omega)
        cases he
        have hin1 : inB ((j : Int) + 1) 0 ((n : Int) - 1) = true := hin
        have H : Hid (breakB rs (j + 1) = decide (q.kind = 1)) := breakB_glue hr hk hq
        clear hr hk hq
        by_cases hq1 : q.kind = 1
        all_goals
          go_enter Try.func69, Try.ntmps69
          go_wp2_with (go_at_call 41; refine (c_in _ _ _ _).mono ?_; rintro e w' ⟨rfl, rfl⟩)
          go_ret
          exact ⟨by rw [unhide H]; simp [hq1], Below.refl _ _⟩
    · have H : Hid (breakB rs m = (decide (r.kind = 3) && decide (r.cost < 10000))) := breakB_break hr hk
      have hk2 : (r.kind == 2) = false := by simpa using hk
      clear hr
      by_cases h3 : r.kind = 3 <;> by_cases hc : r.cost < 10000
      all_goals
        go_enter Try.func69, Try.ntmps69
        go_wp2_with (go_at_call 41; refine (c_in _ _ _ _).mono ?_; rintro e w' ⟨rfl, rfl⟩)
        go_ret
        exact ⟨by rw [unhide H]; simp [h3, hc], Below.refl _ _⟩
set_option maxHeartbeats 800000 in
theorem c_l5Break (A : Option Addr) (n c : Nat) (rs : List Item) (m : Nat) (w : World) (hR : ItemsAt w A n c rs) (hm : m < n) :
    Calls Try.prog 52 #[.slice A n c, .int .i64 m] w fun e w' => e = .returned (.bool (breakB rs m)) ∧ Below w.heap.size w w' := by
  have hlen := hR.len
  have hbd := hR.bd
  obtain ⟨b, off, r, rfl, hb, hr, q0, q1, q2, q3, q4, q5, q6⟩ := hR.at_ hm
  clear q1 q2 q3 q4 q6
  clear hlen
  by_cases hk : r.kind = 2
  · have q0' : w.cell? ⟨b, off + m * 7, none⟩ = some (.int .i64 2) := by rw [q0, hk]
    clear q0 q5
    rcases m with _ | j
    · have q00 : w.cell? ⟨b, off, none⟩ = some (.int .i64 2) := by simpa using q0'
      have H : Hid (breakB rs 0 = false) := breakB_glue0 hr hk
      clear hr hk
      go_enter Try.func52, Try.ntmps52
      go_wp2
      go_ret
      exact ⟨by rw [unhide H] <;> rfl, Below.refl _ _⟩
    · obtain ⟨b', off', q, he, hb', hq, p0, _⟩ := hR.at_ (k := j) (by omega)
      cases he
      have H : Hid (breakB rs (j + 1) = decide (q.kind = 1)) := breakB_glue hr hk hq
      clear hr hk hq
      by_cases hq1 : q.kind = 1
      all_goals
        go_enter Try.func52, Try.ntmps52
        go_wp2
        go_ret
        exact ⟨by rw [unhide H]; simp [hq1], Below.refl _ _⟩
  · have H : Hid (breakB rs m = (decide (r.kind = 3) && decide (r.cost < 10000))) := breakB_break hr hk
    have hk2 : (r.kind == 2) = false := by simpa using hk
    clear hr
    by_cases h3 : r.kind = 3 <;> by_cases hc : r.cost < 10000
    all_goals
      go_enter Try.func52, Try.ntmps52
      go_wp2
      go_ret
      exact ⟨by rw [unhide H]; simp [h3, hc], Below.refl _ _⟩
set_option maxHeartbeats 400000 in
theorem c_forced (r : Item) (w : World) :
    Calls Try.prog 71 #[.agg #[.int .i64 r.kind, .int .i64 r.w, .int .i64 r.st, .int .i64 r.sh, .int .i64 r.od, .int .i64 r.cost, .bool r.mark]] w fun e w' => e = .returned (.bool (forcedB r)) ∧ Below w.heap.size w w' := by
  have H : Hid (forcedB r = (decide (r.kind = 3) && decide (r.cost = -10000))) := rfl
  by_cases h3 : r.kind = 3 <;> by_cases hc : r.cost = -10000
  all_goals
    go_enter Try.func71, Try.ntmps71
    go_wp2
    go_ret
    exact ⟨by rw [unhide H]; simp [h3, hc], bof _ _⟩
end Go.Proofs.Ytadcbigioldejaa
