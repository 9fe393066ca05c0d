/- ItemValid and ItemsValid, the program's and the reference's. · ItemValid and ItemsValid of the reference. No condition. -/
import Derived.Test.YtlklkloadefihaaItemV0
import Derived.Test.YtlklkloadefihaaItemV1
import Derived.Test.YtlklkloadefihaaItemV2
import Derived.Test.YtlklkloadefihaaItemV3
import Derived.Test.YtlklkloadefihaaItemW0
import Derived.Test.YtlklkloadefihaaItemW1
import Derived.Test.YtlklkloadefihaaItemW2
import Derived.Test.YtlklkloadefihaaItemW3
namespace Go.Proofs.Ytlklkloadefihaa
open Go.RowKit
set_option linter.unusedVariables false
theorem c_itemValid (r : Item) (w : World) :
    Calls Try.prog 86 #[.agg #[.int .i64 r.kind, .int .i64 r.w, .int .i64 r.st, .int .i64 r.sh, .int .i64 r.od, .int .i64 r.cost, .bool r.mark]] w fun e w' => e = .returned (.bool (itemValid r)) ∧ Below w.heap.size w w' := by
  rcases (show r.kind = 1 ∨ r.kind = 2 ∨ r.kind = 3 ∨ (r.kind ≠ 1 ∧ r.kind ≠ 2 ∧ r.kind ≠ 3) by omega) with h | h | h | h
  · exact c_itemValid_1 r h w
  · exact c_itemValid_2 r h w
  · exact c_itemValid_3 r h w
  · exact c_itemValid_0 r h w

set_option maxHeartbeats 800000 in
theorem c_itemsValid (A : Option Addr) (n c : Nat) (rs : List Item) (w : World) (hR : ItemsAt w A n c rs) :
    Calls Try.prog 67 #[.slice A n c] w fun e w' => e = .returned (.bool (itemsValid rs)) ∧ Below w.heap.size w w' := by
  have hbd := hR.bd
  go_enter Try.func67, Try.ntmps67
  go_wp2
  go_loopw [7] (fun i wr => ∃ k : Nat, k ≤ n ∧ i = .int .i64 k ∧ (rs.take k).all itemValid = true ∧ Below w.heap.size w wr) (fun i _ => n - (intOf i).toNat)
  case atStart => exact ⟨0, Nat.zero_le _, rfl, rfl, Below.refl _ _⟩
  case round =>
    obtain ⟨k, hk, rfl, hv, hbel⟩ := hrel
    by_cases hlt : k < n
    · obtain ⟨b, off, r, rfl, hb, hr, h0, h1, h2, h3, h4, h5, h6⟩ := (hR.next hbel).at_ hlt
      go_wp2_with fail
      refine (c_itemValid r _).mono ?_
      rintro e w1 ⟨rfl, hb1⟩
      have hbel' := bnext (bmk hbel _) hb1
      cases hrv : itemValid r
      · go_wp2
        go_ret
        exact ⟨by rw [itemsValid, all_not hr hrv]; rfl, hbel'⟩
      · go_wp2
        go_roundw
        case rel => exact ⟨k + 1, by omega, by go_num, all_snoc hr hv hrv, hbel'⟩
        case measure => simp [intOf]; omega
    · have hlen := hR.len
      have hall := all_end (l := rs) (by omega) hv
      go_wp2
      go_ret
      exact ⟨by rw [itemsValid, hall, hlen]; simp; omega, hbel⟩
end Go.Proofs.Ytlklkloadefihaa

namespace Go.Proofs.Ytlklkloadefihaa
open Go.RowKit
set_option linter.unusedVariables false
theorem c_itemValid' (r : Item) (w : World) :
    Calls Try.prog 79 #[.agg #[.int .i64 r.kind, .int .i64 r.w, .int .i64 r.st, .int .i64 r.sh, .int .i64 r.od, .int .i64 r.cost, .bool r.mark]] w fun e w' => e = .returned (.bool (itemValid r)) ∧ Below w.heap.size w w' := by
  rcases (show r.kind = 1 ∨ r.kind = 2 ∨ r.kind = 3 ∨ (r.kind ≠ 1 ∧ r.kind ≠ 2 ∧ r.kind ≠ 3) by omega) with h | h | h | h
  · exact c_itemValid'_1 r h w
  · exact c_itemValid'_2 r h w
  · exact c_itemValid'_3 r h w
  · exact c_itemValid'_0 r h w

set_option maxHeartbeats 800000 in
theorem c_itemsValid' (A : Option Addr) (n c : Nat) (rs : List Item) (w : World) (hR : ItemsAt w A n c rs) :
    Calls Try.prog 53 #[.slice A n c] w fun e w' => e = .returned (.bool (itemsValid rs)) ∧ Below w.heap.size w w' := by
  have hbd := hR.bd
  go_enter Try.func53, Try.ntmps53
  go_wp2
  go_loopw [3] (fun i wr => ∃ k : Nat, k ≤ n ∧ i = .int .i64 k ∧ (rs.take k).all itemValid = true ∧ Below w.heap.size w wr) (fun i _ => n - (intOf i).toNat)
  case atStart => exact ⟨0, Nat.zero_le _, rfl, rfl, Below.refl _ _⟩
  case round =>
    obtain ⟨k, hk, rfl, hv, hbel⟩ := hrel
    by_cases hlt : k < n
    · obtain ⟨b, off, r, rfl, hb, hr, h0, h1, h2, h3, h4, h5, h6⟩ := (hR.next hbel).at_ hlt
      go_wp2_with fail
      refine (c_itemValid' r _).mono ?_
      rintro e w1 ⟨rfl, hb1⟩
      have hbel' := bnext hbel hb1
      cases hrv : itemValid r
      · go_wp2
        go_ret
        exact ⟨by rw [itemsValid, all_not hr hrv]; rfl, hbel'⟩
      · go_wp2
        go_roundw
        case rel => exact ⟨k + 1, by omega, by go_num, all_snoc hr hv hrv, hbel'⟩
        case measure => simp [intOf]; omega
    · have hlen := hR.len
      have hall := all_end (l := rs) (by omega) hv
      go_wp2
      go_ret
      exact ⟨by rw [itemsValid, hall, hlen]; simp; omega, hbel⟩
end Go.Proofs.Ytlklkloadefihaa
