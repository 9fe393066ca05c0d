/- The walk of the law FnColumnsFit: for every code it returns true and changes nothing that was there. No condition. -/
import Derived.Test.YtnbnkbfebekjhaaBal
import Derived.Test.YtnbnkbfebekjhaaDrawCols
import Derived.Test.YtnbnkbfebekjhaaAlive
namespace Go.Proofs.Ytnbnkbfebekjhaa
open Go.RowKit
set_option linter.unusedVariables false

theorem rows_mid {w : World} {A : Option Addr} {n c i j : Nat} {rs : List Row} (h : RowsAt w A n c rs) (hi : i ≤ j) (hj : j ≤ n) :
    ∃ A1, RowsAt w A1 (j - i) (c - i) ((rs.drop i).take (j - i)) ∧ ∀ wx : World, (Instr.slice 27 (.slice A n c) (some (.int .i64 (i : Int))) (some (.int .i64 (j : Int))) none).run Try.prog wx = .ok (.slice A1 (j - i) (c - i)) wx := by
  have hbd := h.bd
  refine ⟨if c = i then A else A.map (fun x => x.add (i * 4)), ?_, fun wx => ?_⟩
  · exact (h.cut hi hj).congrA (fun hn => by rw [if_neg (by omega)])
  · have h1 : j ≤ c := by omega
    simp [go_sem, hi, h1]
theorem sub_valid {rs : List Row} (hv : rowsValid rs = true) (a k : Nat) : rowsValid ((rs.drop a).take k) = true :=
  rowsValid_iff.2 ⟨all_sub (rowsValid_iff.1 hv).1 (fun r hr => List.mem_of_mem_drop (List.mem_of_mem_take hr)), by have := (rowsValid_iff.1 hv).2; rw [List.length_take, List.length_drop]; omega⟩
/-- What the law asks of a column, and what follows. -/
theorem cols_step {rs : List Row} {h : Int} {j a : Nat} {l : List Int} {E : Nat} (hv : rowsValid rs = true) (h0 : 0 ≤ h) (ha : a ≤ rs.length) {x : Int} {k : Nat} (hx : l[k]? = some x) (hl : l.drop k = colList rs h (j + 1) a) (hE : colEnd rs h (j + 1) a = E) :
    ∃ d : Nat, x = (d : Int) ∧ a + d ≤ rs.length ∧ l.drop (k + 1) = colList rs h j (a + d) ∧ colEnd rs h j (a + d) = E ∧ heightOf ((rs.drop a).take d) ≤ h := by
  rw [drop_get hx, colList] at hl
  injection hl with e1 e2
  refine ⟨splitN (rs.drop a) h, e1, splitN_drop_le rs h ha, e2, by rw [← hE, colEnd], ?_⟩
  rw [heightOf, if_pos (sub_valid hv a _)]
  exact splitN_sum h0
theorem cols_short {rs : List Row} {h : Int} {j a k : Nat} {l : List Int} (hl : l.drop k = colList rs h j a) (hk : l.length ≤ k) : j = 0 := by
  have := congrArg List.length hl
  rw [List.length_drop, colList_len] at this; omega
set_option maxRecDepth 100000 in
set_option maxHeartbeats 3200000 in
theorem w_FnColumnsFit (A : Option Addr) (n c : Nat) (xs : List Int) (w : World) (h : CodeAt w A n c xs) :
    Calls Try.prog 4 #[.slice A n c] w fun e w' => e = .returned (.bool true) ∧ Below w.heap.size w w' := by
  have hcm := h.2
  unfold maxLen at hcm
  by_cases hbig : 1048576 < n
  · go_enter Try.func4, Try.ntmps4
    go_wp2
    go_ret
    exact ⟨rfl, Below.refl _ _⟩
  · go_enter Try.func4, Try.ntmps4
    go_wp2_with fail
    refine (c_drawColumnsFit A n c xs _ h).mono ?_
    rintro e w1 ⟨A1, c1, rs, m, y, rfl, hl1, ⟨hm0, hm1⟩, ⟨hy0, hy1⟩, R, B⟩
    have hbdR := R.at_.bd
    clear hbig hcm h
    obtain ⟨l, HL0⟩ : ∃ l, Hid (l = (colsOf rs m y).1) := ⟨_, rfl⟩
    obtain ⟨f, HF0⟩ : ∃ f, Hid (f = fitsB rs m y) := ⟨_, rfl⟩
    go_wp2_with fail
    refine (c_columnsFit A1 _ c1 rs m y _ R.at_).mono ?_
    rintro e w2 ⟨A2, c2, he, X, hb⟩
    rw [← unhide HL0, ← unhide HF0] at he
    rw [← unhide HL0] at X
    subst he
    replace B := bnext B hb
    replace R := R.next hb
    clear hb
    go_wp2_with fail
    refine (c_columnsFit' A1 _ c1 rs m y _ R.at_).mono ?_
    rintro e w3 ⟨A3, c3, he, Y, hb⟩
    rw [← unhide HL0, ← unhide HF0] at he
    rw [← unhide HL0] at Y
    subst he
    replace B := bnext B hb
    replace R := R.next hb
    replace X := X.next hb
    clear hb
    have hl6 : l.length ≤ 6 := by rw [unhide HL0]; exact colsOf_len _ _ _
    have hbdX := X.at_.bd
    go_wp2_with fail
    refine (c_sameInts_same _ _ _ _ _ _ l _ X.at_ Y.at_).mono ?_
    rintro e w4 ⟨rfl, hb⟩
    replace B := bnext B hb
    replace R := R.next hb
    replace X := X.next hb
    clear hb Y
    rcases colsOf_cases rs m y with e0 | ⟨M, hmM, hM1, hM6, hv, hin, e0⟩
    · have hl := unhide HL0
      have hf := unhide HF0
      rw [e0] at hl
      rw [fitsB, e0] at hf
      have hf2 : f = false := hf
      clear HL0 HF0 hf e0
      subst hl hf2
      go_wp2_with fail
      refine (c_alive _).mono ?_
      rintro e w5 ⟨rfl, hb⟩
      go_wp2
      go_ret
      exact ⟨rfl, bnext B hb⟩
    · subst hmM
      have hl := unhide HL0
      rw [e0] at hl
      dsimp only at hl
      obtain ⟨E, HE⟩ : ∃ E, Hid (colEnd rs y M 0 = E) := ⟨_, rfl⟩
      have hle := colEnd_le rs y M 0 (by omega)
      rw [unhide HE] at hle
      have hfe : f = decide (E = rs.length) := by
        rw [unhide HF0, fitsB, e0, unhide HE]
        show decide (((rs.length - E : Nat) : Int) = 0) = decide (E = rs.length)
        exact decide_eq_decide.2 ⟨fun h => by omega, fun h => by omega⟩
      have hlen : l.length = M := by rw [hl, colList_len]
      have HL : Hid (l.drop 0 = colList rs y M 0) := by show _ = _; rw [List.drop_zero]; exact hl
      have hy := (inB_iff.1 hin).1
      have HV := hide hv
      have HFE := hide hfe
      clear HL0 HF0 e0 hl hv hin hfe
      have hz0 : ((l.length : Int) == 0) = false := by rw [hlen]; simp; omega
      have hz1 : ((l.length : Int) == (M : Int)) = true := by rw [hlen]; simp
      clear hlen
      go_wp2
      go_loopw [10, 11] (fun t i wr => ∃ (k j a : Nat), k ≤ l.length ∧ a ≤ rs.length ∧ i = .int .i64 k ∧ t = .int .i64 a ∧ Hid (l.drop k = colList rs y j a) ∧ Hid (colEnd rs y j a = E) ∧ OwnR wr w.heap.size A1 c1 rs ∧ OwnI wr w1.heap.size A2 c2 l ∧ Below w.heap.size w wr) (fun _ i _ => l.length - (intOf i).toNat)
      case atStart => exact ⟨0, M, 0, Nat.zero_le _, Nat.zero_le _, by go_num, by go_num, HL, HE, R, X, B⟩
      case round =>
        clear R X B HL HE
        obtain ⟨k, j, a, hk, ha, rfl, rfl, hdl, hE, R, X, B⟩ := hrel
        by_cases hlt : k < l.length
        · obtain ⟨b, off, x, rfl, hbl, hx, hc⟩ := X.at_.at_ (k := k) hlt
          obtain ⟨j', rfl⟩ : ∃ j', j = j' + 1 := by
            rcases Nat.eq_zero_or_pos j with h0 | h0
            · subst h0
              have := congrArg List.length (unhide hdl)
              rw [List.length_drop, colList_len] at this
              omega
            · exact ⟨j - 1, by omega⟩
          obtain ⟨d, rfl, had, hdl2, hE2, hh⟩ := cols_step (unhide HV) hy ha hx (unhide hdl) (unhide hE)
          have HDL := hide hdl2
          have HE2 := hide hE2
          have HX := hide hx
          obtain ⟨A5, hR1, hsl0⟩ := rows_mid R.at_ (Nat.le_add_right a d) had
          have hsl := fun wx => hsl0 wx
          simp only [Int.natCast_add, Nat.add_sub_cancel_left] at hsl
          rw [Nat.add_sub_cancel_left] at hR1
          obtain ⟨q, HQ⟩ : ∃ q, Hid (q = heightOf ((rs.drop a).take d)) := ⟨_, rfl⟩
          rw [← unhide HQ] at hh
          clear hdl2 hE2 hx hsl0 hdl hE
          have hlt2 : (k : Int) < (l.length : Int) := by omega
          go_wp2_with fail
          refine (c_heightOf _ _ _ _ _ hR1).mono ?_
          rintro e w8 ⟨he, hb8⟩
          rw [← unhide HQ] at he
          subst he
          have B5 := bnext B hb8
          have R5 := R.next hb8
          have X5 := X.next hb8
          clear hc hR1 hsl hb8 B R X
          obtain ⟨b', off', x', e', hbl', hx', hc⟩ := X5.at_.at_ (k := k) hlt
          obtain ⟨rfl, rfl, _⟩ := (by simpa using e' : b = b' ∧ off = off')
          rw [unhide HX] at hx'
          obtain rfl := Option.some.inj hx'
          clear hx' e'
          go_wp2
          go_roundw
          case rel => exact ⟨k + 1, j', a + d, by omega, by omega, by go_num, by go_num, HDL, HE2, R5, X5, B5⟩
          case measure => simp [intOf]; omega
        · have hj0 := cols_short (unhide hdl) (by omega)
          subst hj0
          have hE3 := unhide hE
          rw [colEnd] at hE3
          subst hE3
          clear hdl hE
          cases f
          · have hz : ((a : Int) == (rs.length : Int)) = false := by
              have := of_decide_eq_false (unhide HFE).symm
              simp; omega
            go_wp2
            go_ret
            exact ⟨rfl, B⟩
          · have hz : ((a : Int) == (rs.length : Int)) = true := by
              have := of_decide_eq_true (unhide HFE).symm
              simp; omega
            go_wp2
            go_ret
            exact ⟨rfl, B⟩
end Go.Proofs.Ytnbnkbfebekjhaa
