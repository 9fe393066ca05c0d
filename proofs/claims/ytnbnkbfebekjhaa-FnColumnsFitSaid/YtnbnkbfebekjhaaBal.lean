/- Balanced columns: what the program and the reference tell of them. No condition. -/
import Derived.Test.YtnbnkbfebekjhaaColsP
import Derived.Deep.RegionWith
namespace Go.Proofs.Ytnbnkbfebekjhaa
open Go.RowKit
set_option linter.unusedVariables false

theorem heightOf_ok {rs : List Row} (h : rowsValid rs = true) : heightOf rs = sumH rs := by simp [heightOf, h]
set_option maxHeartbeats 1600000 in
theorem c_balanceRows (A : Option Addr) (n c : Nat) (rs : List Row) (m : Int) (w : World) (hR : RowsAt w A n c rs) :
    Calls Try.prog 24 #[.slice A n c, .int .i64 m] w fun e w' => e = .returned (.int .i64 (balance rs m)) ∧ Below w.heap.size w w' := by
  have hlen := hR.len
  have hbd := hR.bd
  cases hv : rowsValid rs
  · have H : Hid (balance rs m = -1) := by show _ = _; rw [balance, hv]; rfl
    go_enter Try.func24, Try.ntmps24
    go_wp2_with fail
    refine (c_rowsValid_b hv _ hR).mono ?_
    rintro e w1 ⟨rfl, hb1⟩
    go_wp2
    go_ret
    exact ⟨by rw [unhide H] <;> rfl, hb1⟩
  · cases hin : inB m 1 6
    · have H : Hid (balance rs m = -1) := by show _ = _; rw [balance, hv, hin]; rfl
      go_enter Try.func24, Try.ntmps24
      go_wp2_with fail
      refine (c_rowsValid_b hv _ hR).mono ?_
      rintro e w1 ⟨rfl, hb1⟩
      go_wp2_with fail
      refine (c_in_b hin _).mono ?_
      rintro e w2 ⟨rfl, rfl⟩
      go_wp2
      go_ret
      exact ⟨by rw [unhide H] <;> rfl, hb1⟩
    · have hB := bal_is hv hin
      have H0 : balance rs m = (balN rs m : Int) := by rw [balance, hv, hin]; rfl
      obtain ⟨b, HBN⟩ : ∃ b, Hid (b = balN rs m) := ⟨_, rfl⟩
      rw [← unhide HBN] at hB H0
      have H := hide H0
      have hb30 := hB.bd
      have HB := hide hB
      clear H0 hB HBN
      go_enter Try.func24, Try.ntmps24
      go_wp2_with fail
      refine (c_rowsValid_b hv _ hR).mono ?_
      rintro e w1 ⟨rfl, hb1⟩
      go_wp2_with fail
      refine (c_in_b hin _).mono ?_
      rintro e w2 ⟨rfl, rfl⟩
      clear hv hin
      go_wp2
      go_loopw [5] (fun i wr => ∃ j : Nat, j ≤ b ∧ i = .int .i64 j ∧ Below w.heap.size w wr) (fun i _ => b - (intOf i).toNat)
      case atStart => exact ⟨0, by omega, by go_num, hb1⟩
      case round =>
        clear hb1
        obtain ⟨j, hj, rfl, B⟩ := hrel
        go_wp2_with fail
        refine (c_columnsFit A n c rs m (j : Int) _ (hR.next B)).mono ?_
        rintro e w3 ⟨A3, c3, he, X, hb⟩
        have B3 := bnext B hb
        clear hb X B
        by_cases hjb : j = b
        · subst hjb
          rw [(unhide HB).fit] at he
          subst he
          go_wp2
          go_ret
          exact ⟨by rw [unhide H] <;> rfl, B3⟩
        · rw [(unhide HB).no j (by omega)] at he
          subst he
          go_wp2
          go_roundw
          case rel => exact ⟨j + 1, by omega, by go_num, B3⟩
          case measure => simp [intOf]; omega
set_option maxHeartbeats 1600000 in
theorem c_balanceRows' (A : Option Addr) (n c : Nat) (rs : List Row) (m : Int) (w : World) (hR : RowsAt w A n c rs) :
    Calls Try.prog 23 #[.slice A n c, .int .i64 m] w fun e w' => e = .returned (.int .i64 (balance rs m)) ∧ Below w.heap.size w w' := by
  have hlen := hR.len
  have hbd := hR.bd
  cases hv : rowsValid rs
  · have H : Hid (balance rs m = -1) := by show _ = _; rw [balance, hv]; rfl
    go_enter Try.func23, Try.ntmps23
    go_wp2_with fail
    refine (c_rowsValid_b' hv _ hR).mono ?_
    rintro e w1 ⟨rfl, hb1⟩
    go_wp2
    go_ret
    exact ⟨by rw [unhide H] <;> rfl, hb1⟩
  · cases hin : inB m 1 6
    · have H : Hid (balance rs m = -1) := by show _ = _; rw [balance, hv, hin]; rfl
      go_enter Try.func23, Try.ntmps23
      go_wp2_with fail
      refine (c_rowsValid_b' hv _ hR).mono ?_
      rintro e w1 ⟨rfl, hb1⟩
      go_wp2_with fail
      refine (c_l1In_b hin _).mono ?_
      rintro e w2 ⟨rfl, rfl⟩
      go_wp2
      go_ret
      exact ⟨by rw [unhide H] <;> rfl, hb1⟩
    · have hB := bal_is hv hin
      have H0 : balance rs m = (balN rs m : Int) := by rw [balance, hv, hin]; rfl
      obtain ⟨b, HBN⟩ : ∃ b, Hid (b = balN rs m) := ⟨_, rfl⟩
      rw [← unhide HBN] at hB H0
      have H := hide H0
      have hb30 := hB.bd
      have hbs := hB.le
      have HB := hide hB
      have hho := hide (heightOf_ok hv)
      obtain ⟨s, HS⟩ : ∃ s, Hid (s = sumH rs) := ⟨_, rfl⟩
      rw [← unhide HS] at hbs
      clear H0 hB HBN
      go_enter Try.func23, Try.ntmps23
      go_wp2_with fail
      refine (c_rowsValid_b' hv _ hR).mono ?_
      rintro e w1 ⟨rfl, hb1⟩
      go_wp2_with fail
      refine (c_l1In_b hin _).mono ?_
      rintro e w2 ⟨rfl, rfl⟩
      clear hv hin
      go_wp2
      go_loopw [5] (fun i wr => ∃ j : Nat, j ≤ b ∧ i = .int .i64 j ∧ Below w.heap.size w wr) (fun i _ => b - (intOf i).toNat)
      case atStart => exact ⟨0, by omega, by go_num, hb1⟩
      case round =>
        clear hb1
        obtain ⟨j, hj, rfl, B⟩ := hrel
        have hjs : decide ((j : Int) ≤ s) = true := by simp; omega
        go_wp2_with fail
        refine (c_heightOf' A n c rs _ (hR.next B)).mono ?_
        rintro e w3 ⟨he, hb⟩
        rw [unhide hho, ← unhide HS] at he
        subst he
        replace B := bnext B hb
        clear hb
        have hjs2 : (j : Int) ≤ s := by omega
        go_wp2_with fail
        refine (c_columnsFit' A n c rs m (j : Int) _ (hR.next B)).mono ?_
        rintro e w3 ⟨A3, c3, he, X, hb⟩
        have B3 := bnext B hb
        clear hb X B
        by_cases hjb : j = b
        · subst hjb
          rw [(unhide HB).fit] at he
          subst he
          go_wp2
          go_ret
          exact ⟨by rw [unhide H] <;> rfl, B3⟩
        · rw [(unhide HB).no j (by omega)] at he
          subst he
          go_wp2
          go_roundw
          case rel => exact ⟨j + 1, by omega, by go_num, B3⟩
          case measure => simp [intOf]; omega
theorem bal_cases (rs : List Row) (m : Int) : (balance rs m = -1 ∧ balCols rs m = []) ∨ (balance rs m = (balN rs m : Int) ∧ balCols rs m = (colsOf rs m (balN rs m : Int)).1 ∧ rowsValid rs = true ∧ inB m 1 6 = true) := by
  rw [balance, balCols]
  cases hc : (rowsValid rs && inB m 1 6)
  · exact .inl ⟨rfl, rfl⟩
  · rw [Bool.and_eq_true] at hc
    exact .inr ⟨rfl, rfl, hc.1, hc.2⟩
theorem balCols_len (rs : List Row) (m : Int) : (balCols rs m).length ≤ 6 := by
  rcases bal_cases rs m with ⟨_, h⟩ | ⟨_, h, _, _⟩
  · rw [h]; simp
  · rw [h]; exact colsOf_len _ _ _
set_option maxHeartbeats 1600000 in
theorem c_balanceColumns (A : Option Addr) (n c : Nat) (rs : List Row) (m : Int) (w : World) (hR : RowsAt w A n c rs) :
    Calls Try.prog 27 #[.slice A n c, .int .i64 m] w fun e w' => ∃ A' c', e = .returned (.slice A' (balCols rs m).length c') ∧ OwnI w' w.heap.size A' c' (balCols rs m) ∧ Below w.heap.size w w' := by
  rcases bal_cases rs m with ⟨h1, h2⟩ | ⟨h1, h2, _, _⟩
  · have H1 := hide h1
    have H2 := hide h2
    clear h1 h2
    go_enter Try.func27, Try.ntmps27
    go_wp2_with fail
    refine (c_balanceRows A n c rs m _ hR).mono ?_
    rintro e w1 ⟨he, hb1⟩
    rw [unhide H1] at he
    subst he
    go_wp2
    go_ret
    rw [unhide H2]
    exact ⟨none, 0, rfl, OwnI.nil_ _ _, hb1⟩
  · obtain ⟨b, HBN⟩ : ∃ b, Hid (b = balN rs m) := ⟨_, rfl⟩
    rw [← unhide HBN] at h1 h2
    have H1 := hide h1
    have H2 := hide h2
    clear h1 h2
    go_enter Try.func27, Try.ntmps27
    go_wp2_with fail
    refine (c_balanceRows A n c rs m _ hR).mono ?_
    rintro e w1 ⟨he, hb1⟩
    rw [unhide H1] at he
    subst he
    go_wp2_with fail
    refine (c_columnsFit A n c rs m (b : Int) _ (hR.next hb1)).mono ?_
    rintro e w3 ⟨A3, c3, rfl, X, hb⟩
    rw [← unhide H2] at X
    rw [← unhide H2]
    go_wp2
    go_ret
    exact ⟨_, _, rfl, own_base X hb1.size, bnext hb1 hb⟩
set_option maxHeartbeats 1600000 in
theorem c_balanceColumns' (A : Option Addr) (n c : Nat) (rs : List Row) (m : Int) (w : World) (hR : RowsAt w A n c rs) :
    Calls Try.prog 26 #[.slice A n c, .int .i64 m] w fun e w' => ∃ A' c', e = .returned (.slice A' (balCols rs m).length c') ∧ OwnI w' w.heap.size A' c' (balCols rs m) ∧ Below w.heap.size w w' := by
  rcases bal_cases rs m with ⟨h1, h2⟩ | ⟨h1, h2, _, _⟩
  · have H1 := hide h1
    have H2 := hide h2
    clear h1 h2
    go_enter Try.func26, Try.ntmps26
    go_wp2_with fail
    refine (c_balanceRows' A n c rs m _ hR).mono ?_
    rintro e w1 ⟨he, hb1⟩
    rw [unhide H1] at he
    subst he
    have E0 : OwnI (w1.alloc (.cells #[] 3)) w1.heap.size (some ⟨w1.heap.size, 0, none⟩) 0 [] := World.ownsRow_made w1 #[] 0 (Nat.le_refl _) (Nat.zero_le _) rfl
    have hB0 := bof w1 (.cells #[] 3)
    go_wp2
    go_ret
    rw [unhide H2]
    exact ⟨_, 0, rfl, own_base E0 hb1.size, bnext hb1 hB0⟩
  · obtain ⟨b, HBN⟩ : ∃ b, Hid (b = balN rs m) := ⟨_, rfl⟩
    rw [← unhide HBN] at h1 h2
    have H1 := hide h1
    have H2 := hide h2
    clear h1 h2
    go_enter Try.func26, Try.ntmps26
    go_wp2_with fail
    refine (c_balanceRows' A n c rs m _ hR).mono ?_
    rintro e w1 ⟨he, hb1⟩
    rw [unhide H1] at he
    subst he
    go_wp2_with fail
    refine (c_columnsFit' A n c rs m (b : Int) _ (hR.next hb1)).mono ?_
    rintro e w3 ⟨A3, c3, rfl, X, hb⟩
    rw [← unhide H2] at X
    rw [← unhide H2]
    go_wp2
    go_ret
    exact ⟨_, _, rfl, own_base X hb1.size, bnext hb1 hb⟩
end Go.Proofs.Ytnbnkbfebekjhaa
