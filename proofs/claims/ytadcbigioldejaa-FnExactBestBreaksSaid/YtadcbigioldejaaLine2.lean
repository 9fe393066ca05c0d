/- Where a line begins; forced breaks between: contracts. No condition. -/
import Derived.Test.YtadcbigioldejaaLine
namespace Go.Proofs.Ytadcbigioldejaa
open Go.RowKit
set_option linter.unusedVariables false

theorem skip_box {r : Item} (h : r.kind = 1) : skipB r = false := by simp [skipB, h]
theorem skip_other {r : Item} (h : ¬ r.kind = 1) : skipB r = !forcedB r := by simp [skipB, h]

set_option maxHeartbeats 1600000 in
theorem c_lineStart (A : Option Addr) (n c : Nat) (rs : List Item) (after : Int) (k0 : Nat) (hk0 : after + 1 = k0) (hkn : k0 ≤ n) (w : World) (hR : ItemsAt w A n c rs) :
    Calls Try.prog 70 #[.slice A n c, .int .i64 after] w fun e w' => e = .returned (.int .i64 (startOf rs k0)) ∧ Below w.heap.size w w' := by
  have hlen := hR.len
  have hbd := hR.bd
  obtain rfl : after = (k0 : Int) - 1 := by omega
  clear hk0
  go_enter Try.func70, Try.ntmps70
  go_wp2
  go_loopw [5] (fun i wr => ∃ k : Nat, k ≤ n ∧ i = .int .i64 k ∧ Hid (startOf rs k0 = startOf rs k) ∧ Below w.heap.size w wr) (fun i _ => n - (intOf i).toNat)
  case atStart => exact ⟨k0, hkn, by go_num, rfl, Below.refl _ _⟩
  case round =>
    obtain ⟨k, hk, rfl, hv, hbel⟩ := hrel
    by_cases hlt : k < n
    · obtain ⟨b, off, r, rfl, hb, hr, q0, q1, q2, q3, q4, q5, q6⟩ := (hR.next hbel).at_ hlt
      clear hlen
      by_cases h1 : r.kind = 1
      · have H : Hid (startOf rs k0 = k) := by show _ = _; rw [unhide hv, startOf_stop hr (skip_box h1)]
        have q0' : wr.cell? ⟨b, off + k * 7, none⟩ = some (.int .i64 1) := by rw [q0, h1]
        clear hv hr h1 q0
        go_wp2
        go_ret
        exact ⟨by rw [unhide H] <;> rfl, hbel⟩
      · have h1' : (r.kind != 1) = true := by simpa using h1
        cases hf : forcedB r
        · have H : Hid (startOf rs k0 = startOf rs (k + 1)) := by show _ = _; rw [unhide hv, startOf_go hr (by rw [skip_other h1, hf]; rfl)]
          clear hv hr
          go_wp2_with (go_at_call 71; refine (c_forced r _).mono ?_; rintro e w1 ⟨rfl, hb1⟩)
          go_roundw
          case rel => exact ⟨k + 1, by omega, by go_num, H, bnext hbel hb1⟩
          case measure => simp [intOf]; omega
        · have H : Hid (startOf rs k0 = k) := by show _ = _; rw [unhide hv, startOf_stop hr (by rw [skip_other h1, hf]; rfl)]
          clear hv hr
          go_wp2_with (go_at_call 71; refine (c_forced r _).mono ?_; rintro e w1 ⟨rfl, hb1⟩)
          go_ret
          exact ⟨by rw [unhide H] <;> rfl, bnext hbel hb1⟩
    · obtain rfl : n = k := by omega
      have H : Hid (startOf rs k0 = n) := by show _ = _; rw [unhide hv, startOf_end (by omega)]
      clear hv hlen
      go_wp2
      go_ret
      exact ⟨by rw [unhide H] <;> rfl, hbel⟩
theorem cost_sign {r : Item} (hv : itemValid r = true) (hk : r.kind = 3) : (0 ≤ r.cost ∧ forcedB r = false) ∨ (r.cost < 0 ∧ forcedB r = true) := by
  have h := cost_of_valid hv (.inr hk)
  simp only [isCostB, Bool.or_eq_true, inB_iff] at h
  rcases h with h | h
  · left; exact ⟨h.1, by simp [forcedB, hk]; omega⟩
  · right; simp at h; simp [forcedB, hk, h]
theorem forced_other {r : Item} (h : ¬ r.kind = 3) : forcedB r = false := by simp [forcedB, h]
theorem forced_break {r : Item} (h : r.kind = 3) : forcedB r = decide (r.cost = -10000) := by simp [forcedB, h]
set_option maxHeartbeats 1600000 in
theorem c_l5Start (A : Option Addr) (n c : Nat) (rs : List Item) (after : Int) (k0 : Nat) (hk0 : after + 1 = k0) (hkn : k0 ≤ n) (w : World) (hR : ItemsAt w A n c rs) (hval : rs.all itemValid = true) :
    Calls Try.prog 59 #[.slice A n c, .int .i64 after] w fun e w' => e = .returned (.int .i64 (startOf rs k0)) ∧ Below w.heap.size w w' := by
  have hlen := hR.len
  have hbd := hR.bd
  have HV := hide hval
  clear hval
  obtain rfl : after = (k0 : Int) - 1 := by omega
  clear hk0
  go_enter Try.func59, Try.ntmps59
  go_wp2
  go_loopw [5] (fun i wr => ∃ k : Nat, k ≤ n ∧ i = .int .i64 k ∧ Hid (startOf rs k0 = startOf rs k) ∧ Below w.heap.size w wr) (fun i _ => n - (intOf i).toNat)
  case atStart => exact ⟨k0, hkn, by go_num, rfl, Below.refl _ _⟩
  case round =>
    obtain ⟨k, hk, rfl, hv, hbel⟩ := hrel
    by_cases hlt : k < n
    · obtain ⟨b, off, r, rfl, hb, hr, q0, q1, q2, q3, q4, q5, q6⟩ := (hR.next hbel).at_ hlt
      have hrv := List.all_eq_true.1 (unhide HV) r (mem_of_get hr)
      clear hlen q1 q2 q3 q4 q6
      by_cases h1 : r.kind = 1
      · have H : Hid (startOf rs k0 = k) := by show _ = _; rw [unhide hv, startOf_stop hr (skip_box h1)]
        have q0' : wr.cell? ⟨b, off + k * 7, none⟩ = some (.int .i64 1) := by rw [q0, h1]
        clear hv hr h1 q0 hrv
        go_wp2
        go_ret
        exact ⟨by rw [unhide H] <;> rfl, hbel⟩
      · have h1' : (r.kind != 1) = true := by simpa using h1
        by_cases h3 : r.kind = 3
        · have q0' : wr.cell? ⟨b, off + k * 7, none⟩ = some (.int .i64 3) := by rw [q0, h3]
          rcases cost_sign hrv h3 with ⟨hc, hf⟩ | ⟨hc, hf⟩
          · have H : Hid (startOf rs k0 = startOf rs (k + 1)) := by show _ = _; rw [unhide hv, startOf_go hr (by rw [skip_other h1, hf]; rfl)]
            clear hv hr hrv q0 h3 h1 h1' hf
            go_wp2
            go_roundw
            case rel => exact ⟨k + 1, by omega, by go_num, H, hbel⟩
            case measure => simp [intOf]; omega
          · have H : Hid (startOf rs k0 = k) := by show _ = _; rw [unhide hv, startOf_stop hr (by rw [skip_other h1, hf]; rfl)]
            have hc' : decide (0 ≤ r.cost) = false := by simpa using hc
            clear hv hr hrv q0 h3 h1 h1' hf
            go_wp2
            go_ret
            exact ⟨by rw [unhide H] <;> rfl, hbel⟩
        · have H : Hid (startOf rs k0 = startOf rs (k + 1)) := by show _ = _; rw [unhide hv, startOf_go hr (by rw [skip_other h1, forced_other h3]; rfl)]
          have h3' : (r.kind != 3) = true := by simpa using h3
          clear hv hr hrv
          go_wp2
          go_roundw
          case rel => exact ⟨k + 1, by omega, by go_num, H, hbel⟩
          case measure => simp [intOf]; omega
    · obtain rfl : n = k := by omega
      have H : Hid (startOf rs k0 = n) := by show _ = _; rw [unhide hv, startOf_end (by omega)]
      clear hv hlen
      go_wp2
      go_ret
      exact ⟨by rw [unhide H] <;> rfl, hbel⟩
set_option maxHeartbeats 1600000 in
theorem c_l7Forced (A : Option Addr) (n c : Nat) (rs : List Item) (after : Int) (k0 m : Nat) (hk0 : after + 1 = k0) (hkm : k0 ≤ m) (hmn : m < n) (w : World) (hR : ItemsAt w A n c rs) :
    Calls Try.prog 60 #[.slice A n c, .int .i64 after, .int .i64 m] w fun e w' => e = .returned (.bool (noForced rs k0 m)) ∧ Below w.heap.size w w' := by
  have hlen := hR.len
  have hbd := hR.bd
  obtain rfl : after = (k0 : Int) - 1 := by omega
  clear hk0 hlen
  go_enter Try.func60, Try.ntmps60
  go_wp2
  go_loopw [7] (fun i wr => ∃ k : Nat, k0 ≤ k ∧ k ≤ m ∧ i = .int .i64 k ∧ Hid (noForced rs k0 k = true) ∧ Below w.heap.size w wr) (fun i _ => m - (intOf i).toNat)
  case atStart => exact ⟨k0, Nat.le_refl _, hkm, by go_num, noForced_start _ _, Below.refl _ _⟩
  case round =>
    obtain ⟨k, hk0, hk, rfl, hv, hbel⟩ := hrel
    by_cases hlt : k < m
    · obtain ⟨b, off, r, rfl, hb, hr, q0, q1, q2, q3, q4, q5, q6⟩ := (hR.next hbel).at_ (k := k) (by omega)
      clear q1 q2 q3 q4 q6
      by_cases h3 : r.kind = 3
      · have q0' : wr.cell? ⟨b, off + k * 7, none⟩ = some (.int .i64 3) := by rw [q0, h3]
        by_cases hc : r.cost = -10000
        · have H : Hid (noForced rs k0 m = false) := noForced_not hr hk0 hlt (by rw [forced_break h3, hc]; rfl)
          have q5' : wr.cell? ⟨b, off + k * 7 + 5, none⟩ = some (.int .i64 (-10000)) := by rw [q5, hc]
          clear hv hr q0 h3 hc q5
          go_wp2
          go_ret
          exact ⟨by rw [unhide H] <;> rfl, hbel⟩
        · have H : Hid (noForced rs k0 (k + 1) = true) := by show _ = _; rw [noForced_snoc hr hk0, unhide hv, forced_break h3]; simp [hc]
          have hc' : (r.cost == -10000) = false := by simpa using hc
          clear hv hr q0 h3
          go_wp2
          go_roundw
          case rel => exact ⟨k + 1, by omega, by omega, by go_num, H, hbel⟩
          case measure => simp [intOf]; omega
      · have H : Hid (noForced rs k0 (k + 1) = true) := by show _ = _; rw [noForced_snoc hr hk0, unhide hv, forced_other h3]; rfl
        have h3' : (r.kind == 3) = false := by simpa using h3
        clear hv hr
        go_wp2
        go_roundw
        case rel => exact ⟨k + 1, by omega, by omega, by go_num, H, hbel⟩
        case measure => simp [intOf]; omega
    · obtain rfl : m = k := by omega
      go_wp2
      go_ret
      exact ⟨by rw [unhide hv] <;> rfl, hbel⟩
end Go.Proofs.Ytadcbigioldejaa
