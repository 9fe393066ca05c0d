/- Entries: what the validity functions compute, and their contracts. No condition. -/
import Derived.Test.YtdjilkohnhejiaaIn
import Derived.Test.YtdjilkohnhejiaaEntries
namespace Go.Proofs.Ytdjilkohnhejiaa
open Go.RowKit
set_option linter.unusedVariables false

def entryOk (m : Int) (e : Entry) : Bool := inB e.col 0 (m - 1) && inB e.many 1 (m - e.col) && inB e.width 0 1000
def entriesValid (rs : List Entry) (m : Int) : Bool := inB m 1 6 && decide (rs.length ≤ 20) && rs.all (entryOk m)
def specOk (m : Int) (e : Entry) : Bool := inB e.col 0 6 && inB e.many 1 6 && decide (e.col + e.many ≤ m) && inB e.width 0 1000
theorem specOk_eq {m : Int} (hm : 1 ≤ m ∧ m ≤ 6) (e : Entry) : specOk m e = entryOk m e := by
  rw [Bool.eq_iff_iff]
  simp only [specOk, entryOk, Bool.and_eq_true, inB_iff, decide_eq_true_eq]
  omega
theorem entriesValid_spec (rs : List Entry) (m : Int) : entriesValid rs m = (rs.all (specOk m) && decide (rs.length ≤ 20) && inB m 1 6) := by
  cases h : inB m 1 6
  · simp [entriesValid, h]
  · have hm := inB_iff.1 h
    have : rs.all (specOk m) = rs.all (entryOk m) := by
      congr 1; funext e; exact specOk_eq hm e
    rw [entriesValid, this, h]
    cases decide (rs.length ≤ 20) <;> cases rs.all (entryOk m) <;> rfl

set_option maxHeartbeats 1000000 in
theorem c_entriesValid (A : Option Addr) (n c : Nat) (rs : List Entry) (m : Int) (w : World) (hR : EntriesAt w A n c rs) :
    Calls Try.prog 38 #[.slice A n c, .int .i64 m] w fun e w' => e = .returned (.bool (entriesValid rs m)) ∧ Below w.heap.size w w' := by
  have hbd := hR.bd
  have hlen := hR.len
  cases h1 : inB m 1 6
  · have H : Hid (entriesValid rs m = false) := by show _ = _; simp [entriesValid, h1]
    go_enter Try.func38, Try.ntmps38
    go_wp2_with fail
    refine (c_in_b h1 _).mono ?_
    rintro e w1 ⟨rfl, rfl⟩
    go_wp2
    go_ret
    exact ⟨by rw [unhide H] <;> rfl, Below.refl _ _⟩
  · have hm := inB_iff.1 h1
    obtain ⟨hm1, hm2⟩ := hm
    by_cases h2 : 20 < n
    · have H : Hid (entriesValid rs m = false) := by show _ = _; simp [entriesValid, hlen]; omega
      clear hlen
      go_enter Try.func38, Try.ntmps38
      go_wp2_with fail
      refine (c_in_b h1 _).mono ?_
      rintro e w1 ⟨rfl, rfl⟩
      go_wp2
      go_ret
      exact ⟨by rw [unhide H] <;> rfl, Below.refl _ _⟩
    · have H : Hid (entriesValid rs m = rs.all (entryOk m)) := by show _ = _; simp [entriesValid, h1, hlen]; omega
      have HL := hide hlen
      clear hlen
      go_enter Try.func38, Try.ntmps38
      go_wp2_with fail
      refine (c_in_b h1 _).mono ?_
      rintro e w1 ⟨rfl, rfl⟩
      clear h1
      go_wp2_with fail
      go_loopw [17] (fun i wr => ∃ (k : Nat), k ≤ n ∧ i = .int .i64 k ∧ Hid ((rs.take k).all (entryOk m) = true) ∧ Below w1.heap.size w1 wr) (fun i _ => n - (intOf i).toNat)
      case atStart => exact ⟨0, Nat.zero_le _, rfl, rfl, Below.refl _ _⟩
      case round =>
        obtain ⟨k, hk, rfl, hall, hbel⟩ := hrel
        by_cases hlt : k < n
        · obtain ⟨b, off, r, rfl, hb, hr, p0, p1, p2⟩ := (hR.next hbel).at_ hlt
          cases hi1 : inB r.col 0 (m - 1)
          · have HF : Hid (entriesValid rs m = false) := by show _ = _; rw [unhide H]; exact all_not hr (by simp [entryOk, hi1])
            clear hr hall
            go_wp2_with fail
            refine (c_in_b hi1 _).mono ?_
            rintro e w2 ⟨rfl, rfl⟩
            go_wp2
            go_ret
            exact ⟨by rw [unhide HF] <;> rfl, bmk hbel _⟩
          · have hc := inB_iff.1 hi1
            obtain ⟨hc1, hc2⟩ := hc
            cases hi2 : inB r.many 1 (m - r.col)
            · have HF : Hid (entriesValid rs m = false) := by show _ = _; rw [unhide H]; exact all_not hr (by simp [entryOk, hi2])
              clear hr hall
              go_wp2_with fail
              refine (c_in_b hi1 _).mono ?_
              rintro e w2 ⟨rfl, rfl⟩
              go_wp2_with fail
              refine (c_in_b hi2 _).mono ?_
              rintro e w2 ⟨rfl, rfl⟩
              go_wp2
              go_ret
              exact ⟨by rw [unhide HF] <;> rfl, bmk hbel _⟩
            · cases hi3 : inB r.width 0 1000
              · have HF : Hid (entriesValid rs m = false) := by show _ = _; rw [unhide H]; exact all_not hr (by simp [entryOk, hi3])
                clear hr hall
                go_wp2_with fail
                refine (c_in_b hi1 _).mono ?_
                rintro e w2 ⟨rfl, rfl⟩
                go_wp2_with fail
                refine (c_in_b hi2 _).mono ?_
                rintro e w2 ⟨rfl, rfl⟩
                go_wp2_with fail
                refine (c_in_b hi3 _).mono ?_
                rintro e w2 ⟨rfl, rfl⟩
                go_wp2
                go_ret
                exact ⟨by rw [unhide HF] <;> rfl, bmk hbel _⟩
              · have HA : Hid ((rs.take (k + 1)).all (entryOk m) = true) := all_snoc hr (unhide hall) (by simp [entryOk, hi1, hi2, hi3])
                clear hr hall
                go_wp2_with fail
                refine (c_in_b hi1 _).mono ?_
                rintro e w2 ⟨rfl, rfl⟩
                go_wp2_with fail
                refine (c_in_b hi2 _).mono ?_
                rintro e w2 ⟨rfl, rfl⟩
                go_wp2_with fail
                refine (c_in_b hi3 _).mono ?_
                rintro e w2 ⟨rfl, rfl⟩
                go_wp2
                go_roundw
                case rel => exact ⟨k + 1, by omega, by go_num, HA, bmk hbel _⟩
                case measure => simp [intOf]; omega
        · have HT : Hid (entriesValid rs m = true) := by show _ = _; rw [unhide H]; exact all_end (by rw [unhide HL]; omega) (unhide hall)
          clear hall
          go_wp2
          go_ret
          exact ⟨by rw [unhide HT] <;> rfl, hbel⟩

set_option maxHeartbeats 1000000 in
theorem c_entriesValid' (A : Option Addr) (n c : Nat) (rs : List Entry) (m : Int) (w : World) (hR : EntriesAt w A n c rs) :
    Calls Try.prog 36 #[.slice A n c, .int .i64 m] w fun e w' => e = .returned (.bool (entriesValid rs m)) ∧ Below w.heap.size w w' := by
  have hbd := hR.bd
  have hlen := hR.len
  have H : Hid (entriesValid rs m = (rs.all (specOk m) && decide (rs.length ≤ 20) && inB m 1 6)) := entriesValid_spec rs m
  have HL := hide hlen
  clear hlen
  go_enter Try.func36, Try.ntmps36
  go_wp2
  go_loopw [5] (fun i wr => ∃ (k : Nat), k ≤ n ∧ i = .int .i64 k ∧ Hid ((rs.take k).all (specOk m) = true) ∧ Below w.heap.size w wr) (fun i _ => n - (intOf i).toNat)
  case atStart => exact ⟨0, Nat.zero_le _, rfl, rfl, Below.refl _ _⟩
  case round =>
    obtain ⟨k, hk, rfl, hall, hbel⟩ := hrel
    by_cases hlt : k < n
    · obtain ⟨b, off, r, rfl, hb, hr, p0, p1, p2⟩ := (hR.next hbel).at_ hlt
      have hno : specOk m r = false → Hid (entriesValid rs m = false) := fun hf => by
        show _ = _; rw [unhide H, all_not hr hf]; rfl
      have HNO := hide hno
      clear hno
      cases hi1 : inB r.col 0 6
      · have HF := (unhide HNO) (by simp [specOk, hi1])
        clear hr hall HNO
        go_wp2_with fail
        refine (c_l1In_b hi1 _).mono ?_
        rintro e w2 ⟨rfl, rfl⟩
        go_wp2
        go_ret
        exact ⟨by rw [unhide HF] <;> rfl, bmk hbel _⟩
      · obtain ⟨hc1, hc2⟩ := inB_iff.1 hi1
        cases hi2 : inB r.many 1 6
        · have HF := (unhide HNO) (by simp [specOk, hi2])
          clear hr hall HNO
          go_wp2_with fail
          refine (c_l1In_b hi1 _).mono ?_
          rintro e w2 ⟨rfl, rfl⟩
          go_wp2_with fail
          refine (c_l1In_b hi2 _).mono ?_
          rintro e w2 ⟨rfl, rfl⟩
          go_wp2
          go_ret
          exact ⟨by rw [unhide HF] <;> rfl, bmk hbel _⟩
        · obtain ⟨hd1, hd2⟩ := inB_iff.1 hi2
          cases hs : decide (m < r.col + r.many)
          · have hs' := of_decide_eq_false hs
            cases hi3 : inB r.width 0 1000
            · have HF := (unhide HNO) (by simp [specOk, hi3])
              clear hr hall HNO
              go_wp2_with fail
              refine (c_l1In_b hi1 _).mono ?_
              rintro e w2 ⟨rfl, rfl⟩
              go_wp2_with fail
              refine (c_l1In_b hi2 _).mono ?_
              rintro e w2 ⟨rfl, rfl⟩
              go_wp2_with fail
              refine (c_l1In_b hi3 _).mono ?_
              rintro e w2 ⟨rfl, rfl⟩
              go_wp2
              go_ret
              exact ⟨by rw [unhide HF] <;> rfl, bmk hbel _⟩
            · have HA : Hid ((rs.take (k + 1)).all (specOk m) = true) := all_snoc hr (unhide hall) (by simp [specOk, hi1, hi2, hi3]; omega)
              clear hr hall HNO
              go_wp2_with fail
              refine (c_l1In_b hi1 _).mono ?_
              rintro e w2 ⟨rfl, rfl⟩
              go_wp2_with fail
              refine (c_l1In_b hi2 _).mono ?_
              rintro e w2 ⟨rfl, rfl⟩
              go_wp2_with fail
              refine (c_l1In_b hi3 _).mono ?_
              rintro e w2 ⟨rfl, rfl⟩
              go_wp2
              go_roundw
              case rel => exact ⟨k + 1, by omega, by go_num, HA, bmk hbel _⟩
              case measure => simp [intOf]; omega
          · have hs' := of_decide_eq_true hs
            have HF := (unhide HNO) (by simp [specOk]; omega)
            clear hr hall HNO
            go_wp2_with fail
            refine (c_l1In_b hi1 _).mono ?_
            rintro e w2 ⟨rfl, rfl⟩
            go_wp2_with fail
            refine (c_l1In_b hi2 _).mono ?_
            rintro e w2 ⟨rfl, rfl⟩
            go_wp2
            go_ret
            exact ⟨by rw [unhide HF] <;> rfl, bmk hbel _⟩
    · have HT : Hid (entriesValid rs m = (decide (rs.length ≤ 20) && inB m 1 6)) := by show _ = _; rw [unhide H, all_end (by rw [unhide HL]; omega) (unhide hall)]; rfl
      clear hall
      by_cases h20 : n ≤ 20
      · cases h1 : inB m 1 6
        all_goals
          go_wp2_with fail
          refine (c_l1In_b h1 _).mono ?_
          rintro e w2 ⟨rfl, rfl⟩
          go_wp2
          go_ret
          exact ⟨by rw [unhide HT, unhide HL, h1]; simp; try omega, hbel⟩
      · go_wp2
        go_ret
        exact ⟨by rw [unhide HT, unhide HL]; simp; intro h; omega, hbel⟩
theorem c_entriesValid_b {A : Option Addr} {n c : Nat} {rs : List Entry} {m : Int} {b : Bool} (h : entriesValid rs m = b) (w : World) (hR : EntriesAt w A n c rs) :
    Calls Try.prog 38 #[.slice A n c, .int .i64 m] w fun e w' => e = .returned (.bool b) ∧ Below w.heap.size w w' := by
  rw [← h]; exact c_entriesValid A n c rs m w hR
theorem c_entriesValid_b' {A : Option Addr} {n c : Nat} {rs : List Entry} {m : Int} {b : Bool} (h : entriesValid rs m = b) (w : World) (hR : EntriesAt w A n c rs) :
    Calls Try.prog 36 #[.slice A n c, .int .i64 m] w fun e w' => e = .returned (.bool b) ∧ Below w.heap.size w w' := by
  rw [← h]; exact c_entriesValid' A n c rs m w hR
end Go.Proofs.Ytdjilkohnhejiaa
