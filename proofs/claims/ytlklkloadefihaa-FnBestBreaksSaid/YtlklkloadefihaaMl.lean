/- Places where a line may end, and where it begins: contracts. · Where a line begins; forced breaks between: contracts. · The program's boxes and glues of a line: contract. · The reference's lines: whether they are possible, the sum of their glues: contracts. No condition. -/
import Derived.Test.YtlklkloadefihaaMa
import Derived.Test.YtlklkloadefihaaMIt
import Derived.Deep.QuietTactic
import Derived.Test.YtlklkloadefihaaMgl
import Derived.Deep.RegionLaw
namespace Go.Proofs.Ytlklkloadefihaa
open Go.RowKit
set_option linter.unusedVariables false

theorem mayB_out {rs : List Item} {n : Nat} {k : Int} (hl : rs.length = n) (h : inB k 0 ((n : Int) - 1) = false) : mayB rs k = false := by
  rw [inB_not] at h
  cases hm : mayB rs k
  · rfl
  · have := mayB_bd hm; omega
theorem breakB_glue0 {rs : List Item} {r : Item} (h : rs[0]? = some r) (hk : r.kind = 2) : breakB rs 0 = false := by
  simp [breakB, itAt_of h, hk]
theorem breakB_glue {rs : List Item} {m : Nat} {r q : Item} (h : rs[m + 1]? = some r) (hk : r.kind = 2) (hq : rs[m]? = some q) : breakB rs (m + 1) = decide (q.kind = 1) := by
  have := get_lt h
  simp [breakB, itAt_of h, hk, itAt_of hq, this]
theorem breakB_break {rs : List Item} {m : Nat} {r : Item} (h : rs[m]? = some r) (hk : ¬ r.kind = 2) : breakB rs m = (decide (r.kind = 3) && decide (r.cost < 10000)) := by
  have := get_lt h
  simp [breakB, itAt_of h, hk, this]

set_option maxHeartbeats 800000 in
theorem c_mayBreak (A : Option Addr) (n c : Nat) (rs : List Item) (k : Int) (w : World) (hR : ItemsAt w A n c rs) :
    Calls Try.prog 68 #[.slice A n c, .int .i64 k] w fun e w' => e = .returned (.bool (mayB rs k)) ∧ Below w.heap.size w w' := by
  have hlen := hR.len
  have hbd := hR.bd
  cases hin : inB k 0 ((n : Int) - 1)
  · have H : Hid (mayB rs k = false) := mayB_out hlen hin
    clear hlen
    go_enter Try.func68, Try.ntmps68
    go_wp2_with (go_at_call 45; refine (c_in _ _ _ _).mono ?_; rintro e w' ⟨rfl, rfl⟩)
    go_ret
    exact ⟨by rw [unhide H] <;> rfl, Below.refl _ _⟩
  · obtain ⟨h0, h1⟩ := inB_iff.1 hin
    obtain ⟨m, rfl⟩ := Int.eq_ofNat_of_zero_le h0
    have hm : m < n := by omega
    rw [mayB_nat]
    obtain ⟨b, off, r, rfl, hb, hr, q0, q1, q2, q3, q4, q5, q6⟩ := hR.at_ hm
    clear q1 q2 q3 q4 q6
    clear hlen
    by_cases hk : r.kind = 2
    · have q0' : w.cell? ⟨b, off + m * 7, none⟩ = some (.int .i64 2) := by rw [q0, hk]
      clear q0 q5
      rcases m with _ | j
      · have q00 : w.cell? ⟨b, off, none⟩ = some (.int .i64 2) := by simpa using q0'
        have hin0 : inB 0 0 ((n : Int) - 1) = true := hin
        have H : Hid (breakB rs 0 = false) := breakB_glue0 hr hk
        clear hr hk
        go_enter Try.func68, Try.ntmps68
        go_wp2_with (go_at_call 45; refine (c_in _ _ _ _).mono ?_; rintro e w' ⟨rfl, rfl⟩)
        go_ret
        exact ⟨by rw [unhide H] <;> rfl, Below.refl _ _⟩
      · obtain ⟨b', off', q, he, hb', hq, p0, _⟩ := hR.at_ (k := j) (by omega)
        cases he
        have hin1 : inB ((j : Int) + 1) 0 ((n : Int) - 1) = true := hin
        have H : Hid (breakB rs (j + 1) = decide (q.kind = 1)) := breakB_glue hr hk hq
        clear hr hk hq
        by_cases hq1 : q.kind = 1
        all_goals
          go_enter Try.func68, Try.ntmps68
          go_wp2_with (go_at_call 45; refine (c_in _ _ _ _).mono ?_; rintro e w' ⟨rfl, rfl⟩)
          go_ret
          exact ⟨by rw [unhide H]; simp [hq1], Below.refl _ _⟩
    · have H : Hid (breakB rs m = (decide (r.kind = 3) && decide (r.cost < 10000))) := breakB_break hr hk
      have hk2 : (r.kind == 2) = false := by simpa using hk
      clear hr
      by_cases h3 : r.kind = 3 <;> by_cases hc : r.cost < 10000
      all_goals
        go_enter Try.func68, Try.ntmps68
        go_wp2_with (go_at_call 45; refine (c_in _ _ _ _).mono ?_; rintro e w' ⟨rfl, rfl⟩)
        go_ret
        exact ⟨by rw [unhide H]; simp [h3, hc], Below.refl _ _⟩
set_option maxHeartbeats 800000 in
theorem c_l5Break (A : Option Addr) (n c : Nat) (rs : List Item) (m : Nat) (w : World) (hR : ItemsAt w A n c rs) (hm : m < n) :
    Calls Try.prog 66 #[.slice A n c, .int .i64 m] w fun e w' => e = .returned (.bool (breakB rs m)) ∧ Below w.heap.size w w' := by
  have hlen := hR.len
  have hbd := hR.bd
  obtain ⟨b, off, r, rfl, hb, hr, q0, q1, q2, q3, q4, q5, q6⟩ := hR.at_ hm
  clear q1 q2 q3 q4 q6
  clear hlen
  by_cases hk : r.kind = 2
  · have q0' : w.cell? ⟨b, off + m * 7, none⟩ = some (.int .i64 2) := by rw [q0, hk]
    clear q0 q5
    rcases m with _ | j
    · have q00 : w.cell? ⟨b, off, none⟩ = some (.int .i64 2) := by simpa using q0'
      have H : Hid (breakB rs 0 = false) := breakB_glue0 hr hk
      clear hr hk
      go_enter Try.func66, Try.ntmps66
      go_wp2
      go_ret
      exact ⟨by rw [unhide H] <;> rfl, Below.refl _ _⟩
    · obtain ⟨b', off', q, he, hb', hq, p0, _⟩ := hR.at_ (k := j) (by omega)
      cases he
      have H : Hid (breakB rs (j + 1) = decide (q.kind = 1)) := breakB_glue hr hk hq
      clear hr hk hq
      by_cases hq1 : q.kind = 1
      all_goals
        go_enter Try.func66, Try.ntmps66
        go_wp2
        go_ret
        exact ⟨by rw [unhide H]; simp [hq1], Below.refl _ _⟩
  · have H : Hid (breakB rs m = (decide (r.kind = 3) && decide (r.cost < 10000))) := breakB_break hr hk
    have hk2 : (r.kind == 2) = false := by simpa using hk
    clear hr
    by_cases h3 : r.kind = 3 <;> by_cases hc : r.cost < 10000
    all_goals
      go_enter Try.func66, Try.ntmps66
      go_wp2
      go_ret
      exact ⟨by rw [unhide H]; simp [h3, hc], Below.refl _ _⟩
set_option maxHeartbeats 400000 in
theorem c_forced (r : Item) (w : World) :
    Calls Try.prog 77 #[.agg #[.int .i64 r.kind, .int .i64 r.w, .int .i64 r.st, .int .i64 r.sh, .int .i64 r.od, .int .i64 r.cost, .bool r.mark]] w fun e w' => e = .returned (.bool (forcedB r)) ∧ Below w.heap.size w w' := by
  have H : Hid (forcedB r = (decide (r.kind = 3) && decide (r.cost = -10000))) := rfl
  by_cases h3 : r.kind = 3 <;> by_cases hc : r.cost = -10000
  all_goals
    go_enter Try.func77, Try.ntmps77
    go_wp2
    go_ret
    exact ⟨by rw [unhide H]; simp [h3, hc], bof _ _⟩
end Go.Proofs.Ytlklkloadefihaa

namespace Go.Proofs.Ytlklkloadefihaa
open Go.RowKit
set_option linter.unusedVariables false

theorem skip_box {r : Item} (h : r.kind = 1) : skipB r = false := by simp [skipB, h]
theorem skip_other {r : Item} (h : ¬ r.kind = 1) : skipB r = !forcedB r := by simp [skipB, h]

set_option maxHeartbeats 1600000 in
theorem c_lineStart (A : Option Addr) (n c : Nat) (rs : List Item) (after : Int) (k0 : Nat) (hk0 : after + 1 = k0) (hkn : k0 ≤ n) (w : World) (hR : ItemsAt w A n c rs) :
    Calls Try.prog 76 #[.slice A n c, .int .i64 after] w fun e w' => e = .returned (.int .i64 (startOf rs k0)) ∧ Below w.heap.size w w' := by
  have hlen := hR.len
  have hbd := hR.bd
  obtain rfl : after = (k0 : Int) - 1 := by omega
  clear hk0
  go_enter Try.func76, Try.ntmps76
  go_wp2
  go_loopw [5] (fun i wr => ∃ k : Nat, k ≤ n ∧ i = .int .i64 k ∧ Hid (startOf rs k0 = startOf rs k) ∧ Below w.heap.size w wr) (fun i _ => n - (intOf i).toNat)
  case atStart => exact ⟨k0, hkn, by go_num, rfl, Below.refl _ _⟩
  case round =>
    obtain ⟨k, hk, rfl, hv, hbel⟩ := hrel
    by_cases hlt : k < n
    · obtain ⟨b, off, r, rfl, hb, hr, q0, q1, q2, q3, q4, q5, q6⟩ := (hR.next hbel).at_ hlt
      clear hlen
      by_cases h1 : r.kind = 1
      · have H : Hid (startOf rs k0 = k) := by show _ = _; rw [unhide hv, startOf_stop hr (skip_box h1)]
        have q0' : wr.cell? ⟨b, off + k * 7, none⟩ = some (.int .i64 1) := by rw [q0, h1]
        clear hv hr h1 q0
        go_wp2
        go_ret
        exact ⟨by rw [unhide H] <;> rfl, hbel⟩
      · have h1' : (r.kind != 1) = true := by simpa using h1
        cases hf : forcedB r
        · have H : Hid (startOf rs k0 = startOf rs (k + 1)) := by show _ = _; rw [unhide hv, startOf_go hr (by rw [skip_other h1, hf]; rfl)]
          clear hv hr
          go_wp2_with (go_at_call 77; refine (c_forced r _).mono ?_; rintro e w1 ⟨rfl, hb1⟩)
          go_roundw
          case rel => exact ⟨k + 1, by omega, by go_num, H, bnext hbel hb1⟩
          case measure => simp [intOf]; omega
        · have H : Hid (startOf rs k0 = k) := by show _ = _; rw [unhide hv, startOf_stop hr (by rw [skip_other h1, hf]; rfl)]
          clear hv hr
          go_wp2_with (go_at_call 77; refine (c_forced r _).mono ?_; rintro e w1 ⟨rfl, hb1⟩)
          go_ret
          exact ⟨by rw [unhide H] <;> rfl, bnext hbel hb1⟩
    · obtain rfl : n = k := by omega
      have H : Hid (startOf rs k0 = n) := by show _ = _; rw [unhide hv, startOf_end (by omega)]
      clear hv hlen
      go_wp2
      go_ret
      exact ⟨by rw [unhide H] <;> rfl, hbel⟩
theorem cost_sign {r : Item} (hv : itemValid r = true) (hk : r.kind = 3) : (0 ≤ r.cost ∧ forcedB r = false) ∨ (r.cost < 0 ∧ forcedB r = true) := by
  have h := cost_of_valid hv (.inr hk)
  simp only [isCostB, Bool.or_eq_true, inB_iff] at h
  rcases h with h | h
  · left; exact ⟨h.1, by simp [forcedB, hk]; omega⟩
  · right; simp at h; simp [forcedB, hk, h]
theorem forced_other {r : Item} (h : ¬ r.kind = 3) : forcedB r = false := by simp [forcedB, h]
theorem forced_break {r : Item} (h : r.kind = 3) : forcedB r = decide (r.cost = -10000) := by simp [forcedB, h]
set_option maxHeartbeats 1600000 in
theorem c_l5Start (A : Option Addr) (n c : Nat) (rs : List Item) (after : Int) (k0 : Nat) (hk0 : after + 1 = k0) (hkn : k0 ≤ n) (w : World) (hR : ItemsAt w A n c rs) (hval : rs.all itemValid = true) :
    Calls Try.prog 74 #[.slice A n c, .int .i64 after] w fun e w' => e = .returned (.int .i64 (startOf rs k0)) ∧ Below w.heap.size w w' := by
  have hlen := hR.len
  have hbd := hR.bd
  have HV := hide hval
  clear hval
  obtain rfl : after = (k0 : Int) - 1 := by omega
  clear hk0
  go_enter Try.func74, Try.ntmps74
  go_wp2
  go_loopw [5] (fun i wr => ∃ k : Nat, k ≤ n ∧ i = .int .i64 k ∧ Hid (startOf rs k0 = startOf rs k) ∧ Below w.heap.size w wr) (fun i _ => n - (intOf i).toNat)
  case atStart => exact ⟨k0, hkn, by go_num, rfl, Below.refl _ _⟩
  case round =>
    obtain ⟨k, hk, rfl, hv, hbel⟩ := hrel
    by_cases hlt : k < n
    · obtain ⟨b, off, r, rfl, hb, hr, q0, q1, q2, q3, q4, q5, q6⟩ := (hR.next hbel).at_ hlt
      have hrv := List.all_eq_true.1 (unhide HV) r (mem_of_get hr)
      clear hlen q1 q2 q3 q4 q6
      by_cases h1 : r.kind = 1
      · have H : Hid (startOf rs k0 = k) := by show _ = _; rw [unhide hv, startOf_stop hr (skip_box h1)]
        have q0' : wr.cell? ⟨b, off + k * 7, none⟩ = some (.int .i64 1) := by rw [q0, h1]
        clear hv hr h1 q0 hrv
        go_wp2
        go_ret
        exact ⟨by rw [unhide H] <;> rfl, hbel⟩
      · have h1' : (r.kind != 1) = true := by simpa using h1
        by_cases h3 : r.kind = 3
        · have q0' : wr.cell? ⟨b, off + k * 7, none⟩ = some (.int .i64 3) := by rw [q0, h3]
          rcases cost_sign hrv h3 with ⟨hc, hf⟩ | ⟨hc, hf⟩
          · have H : Hid (startOf rs k0 = startOf rs (k + 1)) := by show _ = _; rw [unhide hv, startOf_go hr (by rw [skip_other h1, hf]; rfl)]
            clear hv hr hrv q0 h3 h1 h1' hf
            go_wp2
            go_roundw
            case rel => exact ⟨k + 1, by omega, by go_num, H, hbel⟩
            case measure => simp [intOf]; omega
          · have H : Hid (startOf rs k0 = k) := by show _ = _; rw [unhide hv, startOf_stop hr (by rw [skip_other h1, hf]; rfl)]
            have hc' : decide (0 ≤ r.cost) = false := by simpa using hc
            clear hv hr hrv q0 h3 h1 h1' hf
            go_wp2
            go_ret
            exact ⟨by rw [unhide H] <;> rfl, hbel⟩
        · have H : Hid (startOf rs k0 = startOf rs (k + 1)) := by show _ = _; rw [unhide hv, startOf_go hr (by rw [skip_other h1, forced_other h3]; rfl)]
          have h3' : (r.kind != 3) = true := by simpa using h3
          clear hv hr hrv
          go_wp2
          go_roundw
          case rel => exact ⟨k + 1, by omega, by go_num, H, hbel⟩
          case measure => simp [intOf]; omega
    · obtain rfl : n = k := by omega
      have H : Hid (startOf rs k0 = n) := by show _ = _; rw [unhide hv, startOf_end (by omega)]
      clear hv hlen
      go_wp2
      go_ret
      exact ⟨by rw [unhide H] <;> rfl, hbel⟩
set_option maxHeartbeats 1600000 in
theorem c_l7Forced (A : Option Addr) (n c : Nat) (rs : List Item) (after : Int) (k0 m : Nat) (hk0 : after + 1 = k0) (hkm : k0 ≤ m) (hmn : m < n) (w : World) (hR : ItemsAt w A n c rs) :
    Calls Try.prog 80 #[.slice A n c, .int .i64 after, .int .i64 m] w fun e w' => e = .returned (.bool (noForced rs k0 m)) ∧ Below w.heap.size w w' := by
  have hlen := hR.len
  have hbd := hR.bd
  obtain rfl : after = (k0 : Int) - 1 := by omega
  clear hk0 hlen
  go_enter Try.func80, Try.ntmps80
  go_wp2
  go_loopw [7] (fun i wr => ∃ k : Nat, k0 ≤ k ∧ k ≤ m ∧ i = .int .i64 k ∧ Hid (noForced rs k0 k = true) ∧ Below w.heap.size w wr) (fun i _ => m - (intOf i).toNat)
  case atStart => exact ⟨k0, Nat.le_refl _, hkm, by go_num, noForced_start _ _, Below.refl _ _⟩
  case round =>
    obtain ⟨k, hk0, hk, rfl, hv, hbel⟩ := hrel
    by_cases hlt : k < m
    · obtain ⟨b, off, r, rfl, hb, hr, q0, q1, q2, q3, q4, q5, q6⟩ := (hR.next hbel).at_ (k := k) (by omega)
      clear q1 q2 q3 q4 q6
      by_cases h3 : r.kind = 3
      · have q0' : wr.cell? ⟨b, off + k * 7, none⟩ = some (.int .i64 3) := by rw [q0, h3]
        by_cases hc : r.cost = -10000
        · have H : Hid (noForced rs k0 m = false) := noForced_not hr hk0 hlt (by rw [forced_break h3, hc]; rfl)
          have q5' : wr.cell? ⟨b, off + k * 7 + 5, none⟩ = some (.int .i64 (-10000)) := by rw [q5, hc]
          clear hv hr q0 h3 hc q5
          go_wp2
          go_ret
          exact ⟨by rw [unhide H] <;> rfl, hbel⟩
        · have H : Hid (noForced rs k0 (k + 1) = true) := by show _ = _; rw [noForced_snoc hr hk0, unhide hv, forced_break h3]; simp [hc]
          have hc' : (r.cost == -10000) = false := by simpa using hc
          clear hv hr q0 h3
          go_wp2
          go_roundw
          case rel => exact ⟨k + 1, by omega, by omega, by go_num, H, hbel⟩
          case measure => simp [intOf]; omega
      · have H : Hid (noForced rs k0 (k + 1) = true) := by show _ = _; rw [noForced_snoc hr hk0, unhide hv, forced_other h3]; rfl
        have h3' : (r.kind == 3) = false := by simpa using h3
        clear hv hr
        go_wp2
        go_roundw
        case rel => exact ⟨k + 1, by omega, by omega, by go_num, H, hbel⟩
        case measure => simp [intOf]; omega
    · obtain rfl : m = k := by omega
      go_wp2
      go_ret
      exact ⟨by rw [unhide hv] <;> rfl, hbel⟩
end Go.Proofs.Ytlklkloadefihaa

namespace Go.Proofs.Ytlklkloadefihaa
open Go.RowKit
set_option linter.unusedVariables false

def okL (rs : List Item) (after to : Int) : Bool := itemsValid rs && lineOk rs after to
def ints (l : List Nat) : List Int := l.map Int.ofNat
def lineIts (rs : List Item) (after to : Int) : List Int := if okL rs after to then ints (idxs rs (startOf rs (after + 1).toNat) to.toNat) else []
theorem ints_len (l : List Nat) : (ints l).length = l.length := by simp [ints]
theorem okL_parts {rs : List Item} {after to : Int} (hv : itemsValid rs = true) (k0 m : Nat) (ha : after + 1 = k0) (hm : to = m) : okL rs after to = ((decide (after = -1) || mayB rs after) && (breakB rs m && (decide (k0 ≤ m) && (decide (startOf rs k0 ≤ m) && noForced rs k0 m)))) := by
  have e1 : (after + 1).toNat = k0 := by omega
  have e2 : decide (after < to) = decide (k0 ≤ m) := by apply decide_eq_decide.2; omega
  have e3 : decide ((startOf rs k0 : Int) ≤ to) = decide (startOf rs k0 ≤ m) := by apply decide_eq_decide.2; omega
  subst hm
  rw [okL, hv, lineOk, e1, e2, e3, mayB_nat]; simp
theorem okL_not {rs : List Item} {after to : Int} (h : itemsValid rs = false ∨ (after ≠ -1 ∧ mayB rs after = false) ∨ mayB rs to = false ∨ to ≤ after) : okL rs after to = false := by
  rcases h with h | ⟨h, h'⟩ | h | h
  · simp [okL, h]
  · simp [okL, lineOk, h, h']
  · simp [okL, lineOk, h]
  · simp [okL, lineOk]; intros; omega
theorem lineIts_not {rs : List Item} {after to : Int} (h : okL rs after to = false) : lineIts rs after to = [] := by simp [lineIts, h]
theorem lineIts_ok {rs : List Item} {after to : Int} (h : okL rs after to = true) (k0 m : Nat) (ha : after + 1 = k0) (hm : to = m) : lineIts rs after to = ints (idxs rs (startOf rs k0) m) := by
  subst hm
  have e1 : (after + 1).toNat = k0 := by omega
  simp [lineIts, h, e1]

set_option maxRecDepth 100000 in
set_option maxHeartbeats 3200000 in
theorem c_lineItems (A : Option Addr) (n c : Nat) (rs : List Item) (after to : Int) (w : World) (hR : ItemsAt w A n c rs) :
    Calls Try.prog 49 #[.slice A n c, .int .i64 after, .int .i64 to] w fun e w' => ∃ A' c', e = .returned (.tuple #[.slice A' (lineIts rs after to).length c', .bool (okL rs after to)]) ∧ OwnI w' w.heap.size A' c' (lineIts rs after to) ∧ Below w.heap.size w w' := by
  have hlen := hR.len
  have hbd := hR.bd
  go_enter Try.func49, Try.ntmps49
  go_wp2_with fail
  refine (c_itemsValid A n c rs _ hR).mono ?_
  rintro e w1 ⟨rfl, hb1⟩
  cases hv : itemsValid rs
  · have HK := hide (okL_not (after := after) (to := to) (.inl hv))
    clear hlen
    go_wp2
    go_ret2
    rw [unhide HK, lineIts_not (unhide HK)]
    exact ⟨none, 0, rfl, OwnI.nil_ _ _, hb1⟩
  · have hn60 := (itemsValid_iff.1 hv).2
    rw [hlen] at hn60
    have HV := hide hv
    have HLEN := hide hlen
    clear hv hlen
    by_cases ha : after = -1
    case' pos =>
      have hna : (after != -1) = false := by simp [ha]
      have HA : Hid ((decide (after = -1) || mayB rs after) = true) := by show _ = _; simp [ha]
      have hab : -1 ≤ after ∧ after < n := by omega
      clear ha
      go_wp2_with fail
    case' neg =>
      have hna : (after != -1) = true := by simpa using ha
      go_wp2_with fail
      refine (c_mayBreak A n c rs after _ (hR.next hb1)).mono ?_
      rintro e w2 ⟨rfl, hb2⟩
      replace hb1 := bnext hb1 hb2
      clear hb2
      cases hma : mayB rs after
      case' true =>
        have HA : Hid ((decide (after = -1) || mayB rs after) = true) := by show _ = _; simp [hma]
        have hab : -1 ≤ after ∧ after < n := by
          have := mayB_bd hma; rw [unhide HLEN] at this; omega
        clear ha hma
        go_wp2_with fail
      case' false =>
        have HK := hide (okL_not (rs := rs) (to := to) (.inr (.inl ⟨ha, hma⟩)))
        clear ha hma
        go_wp2
        go_ret2
        rw [unhide HK, lineIts_not (unhide HK)]
        exact ⟨none, 0, rfl, OwnI.nil_ _ _, hb1⟩
    all_goals
      rename World => wA
      rename Below w.heap.size w wA => hbA
      refine (c_mayBreak A n c rs to _ (hR.next hbA)).mono ?_
      rintro e wB ⟨rfl, hbB⟩
      replace hbB := bnext hbA hbB
      clear hbA
      cases hmt : mayB rs to
      case' false =>
        have HK := hide (okL_not (rs := rs) (after := after) (.inr (.inr (.inl hmt))))
        clear hmt
        go_wp2
        go_ret2
        rw [unhide HK, lineIts_not (unhide HK)]
        exact ⟨none, 0, rfl, OwnI.nil_ _ _, hbB⟩
      case' true =>
        have htb := mayB_bd hmt
        rw [unhide HLEN] at htb
        have HT := hide hmt
        clear hmt
        obtain ⟨k0, hk0⟩ := Int.eq_ofNat_of_zero_le (show 0 ≤ after + 1 by omega)
        obtain ⟨m, hm⟩ := Int.eq_ofNat_of_zero_le htb.1
        have HP := hide (okL_parts (unhide HV) k0 m hk0 hm)
        rw [unhide HA, Bool.true_and, ← mayB_nat, ← hm, unhide HT, Bool.true_and] at HP
        subst hm
        obtain rfl : after = (k0 : Int) - 1 := by omega
        have hmn : m < n := by omega
        have hkn : k0 ≤ n := by omega
        clear HT HA htb hab hk0
        by_cases hle : m < k0
        case' pos =>
          have hle' : (m : Int) ≤ (k0 : Int) - 1 := by omega
          have HK : Hid (okL rs ((k0 : Int) - 1) m = false) := by
            show _ = _; rw [unhide HP, show decide (k0 ≤ m) = false by simpa using hle]; rfl
          clear HP
          go_wp2
          go_ret2
          rw [unhide HK, lineIts_not (unhide HK)]
          exact ⟨none, 0, rfl, OwnI.nil_ _ _, hbB⟩
        case' neg =>
          have hle' : (k0 : Int) - 1 < m := by omega
          have hkm : k0 ≤ m := by omega
          rw [show decide (k0 ≤ m) = true by simpa using hkm, Bool.true_and] at HP
          have hg1 : decide ((m : Int) ≤ (k0 : Int) - 1) = false := by simp; omega
          clear hle
          go_wp2_with fail
          refine (c_lineStart A n c rs ((k0 : Int) - 1) k0 (by omega) hkn _ (hR.next hbB)).mono ?_
          rintro e wC ⟨rfl, hbC⟩
          replace hbC := bnext hbB hbC
          clear hbB
          obtain ⟨s, HS⟩ : ∃ s, Hid (s = startOf rs k0) := ⟨_, rfl⟩
          have hsk : k0 ≤ s := by rw [unhide HS]; exact startOf_ge _ _
          rw [← unhide HS] at HP ⊢
          by_cases hsm : m < s
          case' pos =>
            have HK : Hid (okL rs ((k0 : Int) - 1) m = false) := by
              show _ = _; rw [unhide HP, show decide (s ≤ m) = false by simpa using hsm]; rfl
            clear HP
            go_wp2
            go_ret2
            rw [unhide HK, lineIts_not (unhide HK)]
            exact ⟨none, 0, rfl, OwnI.nil_ _ _, hbC⟩
          case' neg =>
            have hsm' : s ≤ m := by omega
            rw [show decide (s ≤ m) = true by simpa using hsm', Bool.true_and] at HP
            have hg2 : decide (m < s) = false := by simp; omega
            clear hsm
            go_wp2
            go_loopw [8] (fun i wr => ∃ k : Nat, k0 ≤ k ∧ k ≤ m ∧ i = .int .i64 k ∧ Hid (noForced rs k0 k = true) ∧ Below w.heap.size w wr) (fun i _ => m - (intOf i).toNat)
            case atStart => exact ⟨k0, Nat.le_refl _, hkm, by go_num, noForced_start _ _, hbC⟩
            case round =>
              clear hbC
              obtain ⟨k, hk1, hk2, rfl, hnf, hb⟩ := hrel
              by_cases hlt : k < m
              · obtain ⟨b, off, r, rfl, hbl, hr, q0, q1, q2, q3, q4, q5, q6⟩ := (hR.next hb).at_ (k := k) (by omega)
                cases hf : forcedB r
                · have H : Hid (noForced rs k0 (k + 1) = true) := by show _ = _; rw [noForced_snoc hr hk1, unhide hnf, hf]; rfl
                  clear hnf hr
                  go_wp2_with (go_at_call 77; refine (c_forced r _).mono ?_; rintro e w1 ⟨rfl, hb1⟩)
                  go_roundw
                  case rel => exact ⟨k + 1, by omega, by omega, by go_num, H, bnext hb hb1⟩
                  case measure => simp [intOf]; omega
                · have HK : Hid (okL rs ((k0 : Int) - 1) m = false) := by
                    show _ = _; rw [unhide HP, noForced_not hr hk1 hlt hf]
                  clear HP hnf hr
                  go_wp2_with (go_at_call 77; refine (c_forced r _).mono ?_; rintro e w1 ⟨rfl, hb1⟩)
                  go_ret2
                  rw [unhide HK, lineIts_not (unhide HK)]
                  exact ⟨none, 0, rfl, OwnI.nil_ _ _, bnext hb hb1⟩
              · obtain rfl : k = m := by omega
                have HK : Hid (okL rs ((k0 : Int) - 1) k = true) := by show _ = _; rw [unhide HP, unhide hnf]
                clear HP hnf
                go_wp2_with fail
                refine (c_lineStart A n c rs ((k0 : Int) - 1) k0 (by omega) hkn _ (hR.next hb)).mono ?_
                rintro e w1 ⟨rfl, hb1⟩
                replace hb := bnext hb hb1
                rw [← unhide HS]
                clear hb1
                go_wp2
                go_loopw [9, 10] (fun o i wr => ∃ (q : Nat) (A' : Option Addr) (c' : Nat) (xs : List Int), s ≤ q ∧ q ≤ k ∧ i = .int .i64 q ∧ Hid (xs = ints (idxs rs s q)) ∧ o = .slice A' xs.length c' ∧ OwnI wr w.heap.size A' c' xs ∧ Below w.heap.size w wr) (fun _ i _ => k - (intOf i).toNat)
                case atStart => exact ⟨s, none, 0, [], Nat.le_refl _, hsm', rfl, by show _ = _; rw [idxs_start]; rfl, rfl, OwnI.nil_ _ _, hb⟩
                case round =>
                  clear hb
                  obtain ⟨q, A', c', xs, hq1, hq2, rfl, hxs, rfl, hown, hb⟩ := hrel
                  have hsz := hb.size
                  have hxl : xs.length ≤ 1000000 := by
                    rw [unhide hxs, ints_len]; have := idxs_len rs s q; omega
                  by_cases hlt : q < k
                  · obtain ⟨b, off, r, rfl, hbl, hr, q0, q1, q2, q3, q4, q5, q6⟩ := (hR.next hb).at_ (k := q) (by omega)
                    by_cases h3 : r.kind = 3
                    · have H : Hid (xs = ints (idxs rs s (q + 1))) := by show _ = _; rw [idxs_skip (by rw [itAt_of hr]; exact h3)]; exact unhide hxs
                      have q0' : wr.cell? ⟨b, off + q * 7, none⟩ = some (.int .i64 3) := by rw [q0, h3]
                      clear hxs hr h3 q0
                      go_wp2
                      go_roundw
                      case rel => exact ⟨q + 1, A', c', xs, by omega, by omega, by go_num, H, rfl, hown, hb⟩
                      case measure => simp [intOf]; omega
                    · have H : Hid (xs ++ [(q : Int)] = ints (idxs rs s (q + 1))) := by
                        show _ = _; rw [idxs_take hq1 (by rw [itAt_of hr]; exact h3), unhide hxs]; simp [ints]
                      have h3' : (r.kind != 3) = true := by simpa using h3
                      clear hxs hr h3
                      go_wp2_with (at_builtin; refine wpList_push_N (q : Int) rfl rfl hown rfl rfl (by omega) hsz ?_; intro A2 c2 w2 hown2 hg2 ho2)
                      go_roundw
                      case rel => exact ⟨q + 1, A2, c2, _, by omega, by omega, by go_num, H, by simp, hown2, b_own (bmk hb _) ho2 (Nat.le_refl _) hg2⟩
                      case measure => simp [intOf]; omega
                  · obtain rfl : q = k := by omega
                    have HX : Hid (lineIts rs ((k0 : Int) - 1) q = xs) := by
                      show _ = _; rw [lineIts_ok (unhide HK) k0 q (by omega) rfl, ← unhide HS, ← unhide hxs]
                    clear hxs
                    go_wp2
                    go_ret2
                    rw [unhide HX, unhide HK]
                    exact ⟨_, _, rfl, hown, hb⟩
end Go.Proofs.Ytlklkloadefihaa

namespace Go.Proofs.Ytlklkloadefihaa
open Go.RowKit
set_option linter.unusedVariables false

theorem lineGls_take {rs : List Item} {s k : Nat} (hs : s ≤ k) (h : (itAt rs k).kind ≠ 3) : lineGls rs s (k + 1) = lineGls rs s k ++ [(itAt rs k).gl] := by simp [lineGls, idxs_take hs h]
theorem lineGls_skip {rs : List Item} {s k : Nat} (h : (itAt rs k).kind = 3) : lineGls rs s (k + 1) = lineGls rs s k := by simp [lineGls, idxs_skip h]
theorem lineGls_len (rs : List Item) (s k : Nat) : (lineGls rs s k).length ≤ k := by have := idxs_len rs s k; simp [lineGls]; omega
theorem lineOk_not {rs : List Item} {after to : Int} (h : (after ≠ -1 ∧ mayB rs after = false) ∨ mayB rs to = false ∨ to ≤ after) : lineOk rs after to = false := by
  rcases h with ⟨h, h'⟩ | h | h
  · simp [lineOk, h, h']
  · simp [lineOk, h]
  · simp [lineOk]; intros; omega
theorem mayB_neg {rs : List Item} {k : Int} (h : k < 0) : mayB rs k = false := by simp [mayB]; omega
theorem lineOk_parts {rs : List Item} {after to : Int} (k0 m : Nat) (ha : after + 1 = k0) (hm : to = m) (hkm : k0 ≤ m) : lineOk rs after to = ((decide (after = -1) || mayB rs after) && (breakB rs m && (decide (startOf rs k0 ≤ m) && noForced rs k0 m))) := by
  have e1 : (after + 1).toNat = k0 := by omega
  have e2 : decide (after < to) = true := by simp; omega
  have e3 : decide ((startOf rs k0 : Int) ≤ to) = decide (startOf rs k0 ≤ m) := by apply decide_eq_decide.2; omega
  subst hm
  rw [lineOk, e1, e2, e3, mayB_nat]; simp

theorem c_l5Break_i (A : Option Addr) (n c : Nat) (rs : List Item) (k : Int) (m : Nat) (hk : k = m) (w : World) (hR : ItemsAt w A n c rs) (hm : m < n) :
    Calls Try.prog 66 #[.slice A n c, .int .i64 k] w fun e w' => e = .returned (.bool (breakB rs m)) ∧ Below w.heap.size w w' := by
  subst hk; exact c_l5Break A n c rs m w hR hm
set_option maxRecDepth 100000 in
set_option maxHeartbeats 3200000 in
theorem c_l7Line (A : Option Addr) (n c : Nat) (rs : List Item) (after to : Int) (w : World) (hR : ItemsAt w A n c rs) (hval : rs.all itemValid = true) (hn60 : n ≤ 60) :
    Calls Try.prog 54 #[.slice A n c, .int .i64 after, .int .i64 to] w fun e w' => e = .returned (.bool (lineOk rs after to)) ∧ Below w.heap.size w w' := by
  have hlen := hR.len
  have hbd := hR.bd
  have HVAL := hide hval
  clear hval
  cases hin : inB to 0 ((n : Int) - 1)
  · have H : Hid (lineOk rs after to = false) := lineOk_not (.inr (.inl (mayB_out hlen hin)))
    clear hlen
    go_enter Try.func54, Try.ntmps54
    go_wp2_with fail
    refine (c_l1In _ _ _ _).mono ?_
    rintro e w1 ⟨rfl, rfl⟩
    generalize inB after (-1) _ = b1
    cases b1
    all_goals
      go_wp2_with (go_at_call 47; refine (c_l1In _ _ _ _).mono ?_; rintro e w' ⟨rfl, rfl⟩)
      go_ret
      exact ⟨by rw [unhide H] <;> rfl, Below.refl _ _⟩
  · obtain ⟨h0, h1⟩ := inB_iff.1 hin
    obtain ⟨m, rfl⟩ := Int.eq_ofNat_of_zero_le h0
    have hmn : m < n := by omega
    cases hin2 : inB after (-1) ((m : Int) - 1)
    · have H : Hid (lineOk rs after m = false) := by
        rw [inB_not] at hin2
        rcases hin2 with h | h
        · exact lineOk_not (.inl ⟨by omega, mayB_neg (by omega)⟩)
        · exact lineOk_not (.inr (.inr (by omega)))
      clear hlen
      go_enter Try.func54, Try.ntmps54
      go_wp2_with (go_at_call 47; refine (c_l1In _ _ _ _).mono ?_; rintro e w' ⟨rfl, rfl⟩)
      go_ret
      exact ⟨by rw [unhide H] <;> rfl, Below.refl _ _⟩
    · obtain ⟨g0, g1⟩ := inB_iff.1 hin2
      obtain ⟨k0, hk0⟩ := Int.eq_ofNat_of_zero_le (show 0 ≤ after + 1 by omega)
      have hkm : k0 ≤ m := by omega
      have HP := hide (lineOk_parts (rs := rs) k0 m hk0 rfl hkm)
      have HLEN := hide hlen
      clear hlen
      go_enter Try.func54, Try.ntmps54
      go_wp2_with (go_at_call 47; refine (c_l1In _ _ _ _).mono ?_; rintro e w' ⟨rfl, rfl⟩)
      refine (c_l5Break A n c rs m _ hR hmn).mono ?_
      rintro e w1 ⟨rfl, hb1⟩
      cases hbm : breakB rs m
      · have H : Hid (lineOk rs after m = false) := by show _ = _; rw [unhide HP, hbm]; simp
        clear HP hbm
        go_wp2
        go_ret
        exact ⟨by rw [unhide H] <;> rfl, hb1⟩
      · rw [hbm, Bool.true_and] at HP
        clear hbm
        by_cases hz : after = -1
        case' pos =>
          replace HP : Hid (lineOk rs after m = (decide (startOf rs k0 ≤ m) && noForced rs k0 m)) := by show _ = _; rw [unhide HP, hz]; simp
          have hj0 : decide (after < 0) = true := by simp; omega
          clear hz
          go_wp2_with fail
        case' neg =>
          have hj0 : decide (after < 0) = false := by simp; omega
          go_wp2_with fail
          obtain ⟨j, hj⟩ := Int.eq_ofNat_of_zero_le (show 0 ≤ after by omega)
          refine (c_l5Break_i A n c rs after j hj _ (hR.next hb1) (by omega)).mono ?_
          rintro e w2 ⟨rfl, hb2⟩
          replace hb1 := bnext hb1 hb2
          clear hb2
          cases hbj : breakB rs j
          case' false =>
            have H : Hid (lineOk rs after m = false) := by
              show _ = _; rw [unhide HP, hj, mayB_nat, hbj]
              have : decide ((j : Int) = -1) = false := by simp
              rw [this]; rfl
            clear HP hbj hj
            go_wp2
            go_ret
            exact ⟨by rw [unhide H] <;> rfl, hb1⟩
          case' true =>
            replace HP : Hid (lineOk rs after m = (decide (startOf rs k0 ≤ m) && noForced rs k0 m)) := by show _ = _; rw [unhide HP, hj, mayB_nat, hbj]; simp
            clear hbj hz hj
            go_wp2_with fail
        all_goals
          rename World => wA
          rename Below w.heap.size w wA => hbA
          refine (c_l5Start A n c rs after k0 hk0 (by omega) _ (hR.next hbA) (unhide HVAL)).mono ?_
          rintro e wB ⟨rfl, hbB⟩
          replace hbB := bnext hbA hbB
          clear hbA
          obtain ⟨s, HS⟩ : ∃ s, Hid (startOf rs k0 = s) := ⟨_, rfl⟩
          rw [unhide HS] at HP ⊢
          by_cases hsm : s ≤ m
          case' neg =>
            have hg : decide (s ≤ m) = false := by simpa using hsm
            have H : Hid (lineOk rs after m = false) := by show _ = _; rw [unhide HP, hg]; rfl
            clear HP HS
            go_wp2
            go_ret
            exact ⟨by rw [unhide H] <;> rfl, hbB⟩
          case' pos =>
            have hg : decide (s ≤ m) = true := by simpa using hsm
            rw [hg, Bool.true_and] at HP
            clear HS
            go_wp2_with fail
            refine (c_l7Forced A n c rs after k0 m hk0 hkm hmn _ (hR.next hbB)).mono ?_
            rintro e wC ⟨rfl, hbC⟩
            replace hbC := bnext hbB hbC
            rw [← unhide HP]
            clear HP hbB
            go_wp2
            go_ret
            exact ⟨rfl, hbC⟩
end Go.Proofs.Ytlklkloadefihaa
