/- Headings: what the functions compute, and their contracts. No condition. -/
import Derived.Test.YtdjilkohnhejiaaIn
import Derived.Test.YtdjilkohnhejiaaHeads
import Derived.BigQuiet
import Derived.Deep.RegionWith
namespace Go.Proofs.Ytdjilkohnhejiaa
open Go.RowKit
set_option linter.unusedVariables false

def headsGo : Int → List Heading → Bool
  | _, [] => true
  | p, h :: t => inB h.pos 0 29 && inB h.num 1 1000 && decide (p ≤ h.pos) && headsGo h.pos t
def headsValid (rs : List Heading) : Bool := headsGo 0 rs && decide (rs.length ≤ 20)
theorem headsGo_step {p : Int} {rs : List Heading} {k : Nat} {r : Heading} (h : rs[k]? = some r) : headsGo p (rs.drop k) = (inB r.pos 0 29 && inB r.num 1 1000 && decide (p ≤ r.pos) && headsGo r.pos (rs.drop (k + 1))) := by
  rw [drop_get h, headsGo]

set_option maxHeartbeats 1000000 in
theorem c_headsValid (A : Option Addr) (n c : Nat) (rs : List Heading) (w : World) (hR : HeadsAt w A n c rs) :
    Calls Try.prog 19 #[.slice A n c] w fun e w' => e = .returned (.bool (headsValid rs)) ∧ Below w.heap.size w w' := by
  have hbd := hR.bd
  have hlen := hR.len
  go_enter Try.func19, Try.ntmps19
  go_wp2
  go_loopw [7] (fun i wr => ∃ (k : Nat) (p : Int), k ≤ n ∧ i = .int .i64 k ∧ Hid (headsGo 0 rs = headsGo p (rs.drop k)) ∧ Hid (k = 0 → p = 0) ∧ Hid (∀ j, k = j + 1 → ∃ r, rs[j]? = some r ∧ p = r.pos) ∧ Below w.heap.size w wr) (fun i _ => n - (intOf i).toNat)
  case atStart => exact ⟨0, 0, Nat.zero_le _, rfl, rfl, fun _ => rfl, fun j hj => by omega, Below.refl _ _⟩
  case round =>
    obtain ⟨k, p, hk, rfl, hv, hp0, hp1, hbel⟩ := hrel
    by_cases hlt : k < n
    · obtain ⟨b, off, r, rfl, hb, hr, h0, h1⟩ := (hR.next hbel).at_ hlt
      have hst := unhide hv
      rw [headsGo_step hr] at hst
      have hp1' := unhide hp1
      have hp0' := unhide hp0
      have H0 : Hid (k + 1 = 0 → r.pos = 0) := fun h => by omega
      have H1 : Hid (∀ j, k + 1 = j + 1 → ∃ q, rs[j]? = some q ∧ r.pos = q.pos) := fun j hj => ⟨r, by rw [← show k = j by omega]; exact hr, rfl⟩
      cases hi1 : inB r.pos 0 29
      · rw [hi1] at hst
        have hi2 := hi1
        have H : Hid (headsValid rs = false) := by show _ = _; rw [headsValid, hst]; rfl
        clear hst hv hp0 hp1 hr hp1' hp0'
        go_wp2_with fail
        go_quiet ((first | (go_at_call 51; with_reducible exact Calls.quiet_of_same (c_in_b hi1 _)) | (go_at_call 51; with_reducible exact Calls.quiet_of_same (c_in_b hi2 _))))
        go_wp2
        go_ret
        exact ⟨by rw [unhide H]; rfl, bdrewN (bmk hbel _) _⟩
      · cases hi2 : inB r.num 1 1000
        · rw [hi1, hi2] at hst
          have H : Hid (headsValid rs = false) := by show _ = _; rw [headsValid, hst]; rfl
          clear hst hv hp0 hp1 hr hp1' hp0'
          go_wp2_with fail
          go_quiet ((first | (go_at_call 51; with_reducible exact Calls.quiet_of_same (c_in_b hi1 _)) | (go_at_call 51; with_reducible exact Calls.quiet_of_same (c_in_b hi2 _))))
          go_wp2
          go_ret
          exact ⟨by rw [unhide H]; rfl, bdrewN (bmk hbel _) _⟩
        · rw [hi1, hi2] at hst
          rcases k with _ | j
          · obtain rfl := hp0' rfl
            have hpos := (inB_iff.1 hi1).1
            have H : Hid (headsGo 0 rs = headsGo r.pos (rs.drop (0 + 1))) := by show _ = _; rw [hst]; simp [hpos]
            have h0' : wr.cell? ⟨b, off, none⟩ = some (.int .i64 r.pos) := by simpa using h0
            have h1' : wr.cell? ⟨b, off + 1, none⟩ = some (.int .i64 r.num) := by simpa using h1
            clear hst hv hp0 hp1 hr hp1' hp0' hpos h0 h1
            go_wp2_with fail
            go_quiet ((first | (go_at_call 51; with_reducible exact Calls.quiet_of_same (c_in_b hi1 _)) | (go_at_call 51; with_reducible exact Calls.quiet_of_same (c_in_b hi2 _))))
            go_wp2
            go_roundw
            case rel => exact ⟨0 + 1, r.pos, by omega, by go_num, H, H0, H1, bdrewN (bmk hbel _) _⟩
            case measure => simp [intOf]; omega
          · obtain ⟨q, hq, rfl⟩ := hp1' j rfl
            obtain ⟨b2, off2, q2, e2, hb2, hq2, p0, p1⟩ := (hR.next hbel).at_ (k := j) (by omega)
            obtain ⟨rfl, rfl, _⟩ := (by simpa using e2 : b = b2 ∧ off = off2)
            rw [hq] at hq2
            obtain rfl := Option.some.inj hq2
            cases hd : decide (r.pos < q.pos)
            · have hle := of_decide_eq_false hd
              have H : Hid (headsGo 0 rs = headsGo r.pos (rs.drop (j + 1 + 1))) := by show _ = _; rw [hst]; simp; intro _; omega
              clear hst hv hp0 hp1 hr hp1' hp0' hq hq2 e2 hle
              go_wp2_with fail
              go_quiet ((first | (go_at_call 51; with_reducible exact Calls.quiet_of_same (c_in_b hi1 _)) | (go_at_call 51; with_reducible exact Calls.quiet_of_same (c_in_b hi2 _))))
              go_wp2
              go_roundw
              case rel => exact ⟨(j + 1) + 1, r.pos, by omega, by go_num, H, H0, H1, bdrewN (bmk hbel _) _⟩
              case measure => simp [intOf]; omega
            · have hle := of_decide_eq_true hd
              have H : Hid (headsValid rs = false) := by show _ = _; rw [headsValid, hst, show decide (q.pos ≤ r.pos) = false by simpa using hle]; rfl
              clear hst hv hp0 hp1 hr hp1' hp0' hq hq2 e2
              go_wp2_with fail
              go_quiet ((first | (go_at_call 51; with_reducible exact Calls.quiet_of_same (c_in_b hi1 _)) | (go_at_call 51; with_reducible exact Calls.quiet_of_same (c_in_b hi2 _))))
              go_wp2
              go_ret
              exact ⟨by rw [unhide H]; rfl, bdrewN (bmk hbel _) _⟩
    · have hall : headsGo 0 rs = true := by rw [unhide hv, drop_end (by omega)]; rfl
      have H : Hid (headsValid rs = decide (rs.length ≤ 20)) := by show _ = _; rw [headsValid, hall]; rfl
      clear hall hv hp0 hp1
      go_wp2
      go_ret
      exact ⟨by rw [unhide H, hlen]; simp; try omega, hbel⟩
set_option maxHeartbeats 1000000 in
theorem c_headsValid' (A : Option Addr) (n c : Nat) (rs : List Heading) (w : World) (hR : HeadsAt w A n c rs) :
    Calls Try.prog 17 #[.slice A n c] w fun e w' => e = .returned (.bool (headsValid rs)) ∧ Below w.heap.size w w' := by
  have hbd := hR.bd
  have hlen := hR.len
  go_enter Try.func17, Try.ntmps17
  go_wp2
  go_loopw [3] (fun i wr => ∃ (k : Nat) (p : Int), k ≤ n ∧ i = .int .i64 k ∧ Hid (headsGo 0 rs = headsGo p (rs.drop k)) ∧ Hid (k = 0 → p = 0) ∧ Hid (∀ j, k = j + 1 → ∃ r, rs[j]? = some r ∧ p = r.pos) ∧ Below w.heap.size w wr) (fun i _ => n - (intOf i).toNat)
  case atStart => exact ⟨0, 0, Nat.zero_le _, rfl, rfl, fun _ => rfl, fun j hj => by omega, Below.refl _ _⟩
  case round =>
    obtain ⟨k, p, hk, rfl, hv, hp0, hp1, hbel⟩ := hrel
    by_cases hlt : k < n
    · obtain ⟨b, off, r, rfl, hb, hr, h0, h1⟩ := (hR.next hbel).at_ hlt
      have hst := unhide hv
      rw [headsGo_step hr] at hst
      have hp1' := unhide hp1
      have hp0' := unhide hp0
      have H0 : Hid (k + 1 = 0 → r.pos = 0) := fun h => by omega
      have H1 : Hid (∀ j, k + 1 = j + 1 → ∃ q, rs[j]? = some q ∧ r.pos = q.pos) := fun j hj => ⟨r, by rw [← show k = j by omega]; exact hr, rfl⟩
      cases hi1 : inB r.pos 0 29
      · rw [hi1] at hst
        have hi2 := hi1
        have H : Hid (headsValid rs = false) := by show _ = _; rw [headsValid, hst]; rfl
        clear hst hv hp0 hp1 hr hp1' hp0'
        go_wp2_with fail
        go_quiet ((first | (go_at_call 49; with_reducible exact Calls.quiet_of_same (c_l1In_b hi1 _)) | (go_at_call 49; with_reducible exact Calls.quiet_of_same (c_l1In_b hi2 _))))
        go_wp2
        go_ret
        exact ⟨by rw [unhide H]; rfl, bdrewN hbel _⟩
      · cases hi2 : inB r.num 1 1000
        · rw [hi1, hi2] at hst
          have H : Hid (headsValid rs = false) := by show _ = _; rw [headsValid, hst]; rfl
          clear hst hv hp0 hp1 hr hp1' hp0'
          go_wp2_with fail
          go_quiet ((first | (go_at_call 49; with_reducible exact Calls.quiet_of_same (c_l1In_b hi1 _)) | (go_at_call 49; with_reducible exact Calls.quiet_of_same (c_l1In_b hi2 _))))
          go_wp2
          go_ret
          exact ⟨by rw [unhide H]; rfl, bdrewN hbel _⟩
        · rw [hi1, hi2] at hst
          rcases k with _ | j
          · obtain rfl := hp0' rfl
            have hpos := (inB_iff.1 hi1).1
            have H : Hid (headsGo 0 rs = headsGo r.pos (rs.drop (0 + 1))) := by show _ = _; rw [hst]; simp [hpos]
            have h0' : wr.cell? ⟨b, off, none⟩ = some (.int .i64 r.pos) := by simpa using h0
            have h1' : wr.cell? ⟨b, off + 1, none⟩ = some (.int .i64 r.num) := by simpa using h1
            clear hst hv hp0 hp1 hr hp1' hp0' hpos h0 h1
            go_wp2_with fail
            go_quiet ((first | (go_at_call 49; with_reducible exact Calls.quiet_of_same (c_l1In_b hi1 _)) | (go_at_call 49; with_reducible exact Calls.quiet_of_same (c_l1In_b hi2 _))))
            go_wp2
            go_roundw
            case rel => exact ⟨0 + 1, r.pos, by omega, by go_num, H, H0, H1, bdrewN hbel _⟩
            case measure => simp [intOf]; omega
          · obtain ⟨q, hq, rfl⟩ := hp1' j rfl
            obtain ⟨b2, off2, q2, e2, hb2, hq2, p0, p1⟩ := (hR.next hbel).at_ (k := j) (by omega)
            obtain ⟨rfl, rfl, _⟩ := (by simpa using e2 : b = b2 ∧ off = off2)
            rw [hq] at hq2
            obtain rfl := Option.some.inj hq2
            cases hd : decide (r.pos < q.pos)
            · have hle := of_decide_eq_false hd
              have H : Hid (headsGo 0 rs = headsGo r.pos (rs.drop (j + 1 + 1))) := by show _ = _; rw [hst]; simp; intro _; omega
              clear hst hv hp0 hp1 hr hp1' hp0' hq hq2 e2 hle
              go_wp2_with fail
              go_quiet ((first | (go_at_call 49; with_reducible exact Calls.quiet_of_same (c_l1In_b hi1 _)) | (go_at_call 49; with_reducible exact Calls.quiet_of_same (c_l1In_b hi2 _))))
              go_wp2
              go_roundw
              case rel => exact ⟨(j + 1) + 1, r.pos, by omega, by go_num, H, H0, H1, bdrewN hbel _⟩
              case measure => simp [intOf]; omega
            · have hle := of_decide_eq_true hd
              have H : Hid (headsValid rs = false) := by show _ = _; rw [headsValid, hst, show decide (q.pos ≤ r.pos) = false by simpa using hle]; rfl
              clear hst hv hp0 hp1 hr hp1' hp0' hq hq2 e2
              go_wp2_with fail
              go_quiet ((first | (go_at_call 49; with_reducible exact Calls.quiet_of_same (c_l1In_b hi1 _)) | (go_at_call 49; with_reducible exact Calls.quiet_of_same (c_l1In_b hi2 _))))
              go_wp2
              go_ret
              exact ⟨by rw [unhide H]; rfl, bdrewN hbel _⟩
    · have hall : headsGo 0 rs = true := by rw [unhide hv, drop_end (by omega)]; rfl
      have H : Hid (headsValid rs = decide (rs.length ≤ 20)) := by show _ = _; rw [headsValid, hall]; rfl
      clear hall hv hp0 hp1
      go_wp2
      go_ret
      exact ⟨by rw [unhide H, hlen]; simp; try omega, hbel⟩
end Go.Proofs.Ytdjilkohnhejiaa
