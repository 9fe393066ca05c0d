/- Heights of rows: contracts of impl.heightOf, impl.HeightOf, spec.HeightOf. No condition. -/
import Derived.Test.YtfflnkkhemaanaaRowsA
namespace Go.Proofs.Ytfflnkkhemaanaa
open Go.RowKit
set_option linter.unusedVariables false

set_option maxHeartbeats 400000 in
theorem c_sumH (A : Option Addr) (n c : Nat) (rs : List Row) (w : World) (hR : RowsAt w A n c rs) (hv : rs.all rowValid = true) (hn : n ≤ 1000000) :
    Calls Try.prog 41 #[.slice A n c] w fun e w' => e = .returned (.int .i64 (sumH rs)) ∧ Below w.heap.size w w' := by
  have hlen := hR.len
  go_enter Try.func41, Try.ntmps41
  go_wp2
  go_loopw [3, 8] (fun q i wr => ∃ (k : Nat) (s : Int), k ≤ n ∧ i = .int .i64 k ∧ q = .int .i64 s ∧ Hid (s = sumH (rs.take k)) ∧ 0 ≤ s ∧ s ≤ k * 1000 ∧ Below w.heap.size w wr) (fun _ i _ => n - (intOf i).toNat)
  case atStart => exact ⟨0, 0, Nat.zero_le _, rfl, rfl, rfl, by omega, by omega, Below.refl _ _⟩
  case round =>
    obtain ⟨k, s, hk, rfl, rfl, hs, hs0, hs1, hb⟩ := hrel
    by_cases hlt : k < n
    · obtain ⟨b, off, r, rfl, hbl, hr, h0, h1, h2, h3⟩ := (hR.next hb).at_ hlt
      have hrv : rowValid r = true := List.all_eq_true.1 hv r (mem_of_get hr)
      simp only [rowValid, Bool.and_eq_true, inB_iff] at hrv
      have hrb : 1 ≤ r.h ∧ r.h ≤ 1000 := hrv.1.1
      have hs2 : s + r.h = sumH (rs.take (k + 1)) := by rw [sumH_snoc hr, ← unhide hs]
      have H := hide hs2
      clear hs2 hr hrv
      go_wp2
      go_roundw
      case rel => exact ⟨k + 1, s + r.h, by omega, by go_num, rfl, H, by omega, by omega, bmk hb _⟩
      case measure => simp [intOf]; omega
    · have hs2 : s = sumH rs := by have := unhide hs; rwa [List.take_of_length_le (by omega)] at this
      go_wp2
      go_ret
      exact ⟨by rw [hs2]; rfl, hb⟩

set_option maxHeartbeats 400000 in
theorem c_heightOf (A : Option Addr) (n c : Nat) (rs : List Row) (w : World) (hR : RowsAt w A n c rs) :
    Calls Try.prog 14 #[.slice A n c] w fun e w' => e = .returned (.int .i64 (heightOf rs)) ∧ Below w.heap.size w w' := by
  have hlen := hR.len
  cases hv : rowsValid rs
  · have hh : heightOf rs = -1 := by simp [heightOf, hv]
    have H := hide hh
    go_enter Try.func14, Try.ntmps14
    go_wp2_with fail
    refine (c_rowsValid A n c rs _ hR).mono ?_
    rintro e w1 ⟨rfl, hb1⟩
    go_wp2
    go_ret
    exact ⟨by rw [unhide H]; rfl, hb1⟩
  · have hh : heightOf rs = sumH rs := by simp [heightOf, hv]
    have H := hide hh
    have hv' := rowsValid_iff.1 hv
    go_enter Try.func14, Try.ntmps14
    go_wp2_with fail
    refine (c_rowsValid A n c rs _ hR).mono ?_
    rintro e w1 ⟨rfl, hb1⟩
    go_wp2_with fail
    refine (c_sumH A n c rs _ (hR.next hb1) hv'.1 (by omega)).mono ?_
    rintro e w2 ⟨rfl, hb2⟩
    go_wp2
    go_ret
    exact ⟨by rw [unhide H]; rfl, bnext hb1 hb2⟩

set_option maxHeartbeats 400000 in
theorem c_heightOf' (A : Option Addr) (n c : Nat) (rs : List Row) (w : World) (hR : RowsAt w A n c rs) :
    Calls Try.prog 44 #[.slice A n c] w fun e w' => e = .returned (.int .i64 (heightOf rs)) ∧ Below w.heap.size w w' := by
  have hlen := hR.len
  have hbd := hR.bd
  go_enter Try.func44, Try.ntmps44
  go_wp2
  go_loopw [3, 4] (fun q i wr => ∃ (k : Nat) (s : Int), k ≤ n ∧ i = .int .i64 k ∧ q = .int .i64 s ∧ Hid (rs.all rowValid = true → k ≤ 30 → s = sumH (rs.take k)) ∧ Below w.heap.size w wr) (fun _ i _ => n - (intOf i).toNat)
  case atStart => exact ⟨0, 0, Nat.zero_le _, rfl, rfl, fun _ _ => rfl, Below.refl _ _⟩
  case round =>
    obtain ⟨k, s, hk, rfl, rfl, hs, hb⟩ := hrel
    by_cases hlt : k < n
    · obtain ⟨b, off, r, rfl, hbl, hr, h0, h1, h2, h3⟩ := (hR.next hb).at_ hlt
      have hs2 : rs.all rowValid = true → k + 1 ≤ 30 → wrap64 (s + r.h) = sumH (rs.take (k + 1)) := fun hv hk => by
        have e := unhide hs hv (by omega)
        have bd := sumH_bd (all_take' hv (k + 1))
        rw [sumH_snoc hr] at bd ⊢
        rw [← e] at bd ⊢
        have := List.length_take_le (k + 1) rs
        exact wrap_ok (by omega)
      have H := hide hs2
      clear hs2 hr
      go_wp2
      go_roundw
      case rel => exact ⟨k + 1, _, by omega, by go_num, rfl, H, hb⟩
      case measure => simp [intOf]; omega
    · have hs2 : rowsValid rs = true → s = sumH rs := fun hv => by
        have hv' := rowsValid_iff.1 hv
        have := unhide hs hv'.1 (by omega)
        rwa [List.take_of_length_le (by omega)] at this
      go_wp2_with fail
      refine (c_rowsValid' A n c rs _ (hR.next hb)).mono ?_
      rintro e w1 ⟨rfl, hb1⟩
      cases hv : rowsValid rs
      · have H : Hid (heightOf rs = -1) := by show _ = _; simp [heightOf, hv]
        clear hs2
        go_wp2
        go_ret
        exact ⟨by rw [unhide H]; rfl, bnext hb hb1⟩
      · have H : Hid (heightOf rs = s) := by show _ = _; rw [hs2 hv]; simp [heightOf, hv]
        clear hs2
        go_wp2
        go_ret
        exact ⟨by rw [unhide H]; rfl, bnext hb hb1⟩
end Go.Proofs.Ytfflnkkhemaanaa
