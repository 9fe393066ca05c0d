/- The program's boxes and glues of a line: contract. No condition. -/
import Derived.Test.YtadcbigioldejaaLine2
import Derived.Test.YtadcbigioldejaaGlues
namespace Go.Proofs.Ytadcbigioldejaa
open Go.RowKit
set_option linter.unusedVariables false

def okL (rs : List Item) (after to : Int) : Bool := itemsValid rs && lineOk rs after to
def ints (l : List Nat) : List Int := l.map Int.ofNat
def lineIts (rs : List Item) (after to : Int) : List Int := if okL rs after to then ints (idxs rs (startOf rs (after + 1).toNat) to.toNat) else []
theorem ints_len (l : List Nat) : (ints l).length = l.length := by simp [ints]
theorem okL_parts {rs : List Item} {after to : Int} (hv : itemsValid rs = true) (k0 m : Nat) (ha : after + 1 = k0) (hm : to = m) : okL rs after to = ((decide (after = -1) || mayB rs after) && (breakB rs m && (decide (k0 ≤ m) && (decide (startOf rs k0 ≤ m) && noForced rs k0 m)))) := by
  have e1 : (after + 1).toNat = k0 := by omega
  have e2 : decide (after < to) = decide (k0 ≤ m) := by apply decide_eq_decide.2; omega
  have e3 : decide ((startOf rs k0 : Int) ≤ to) = decide (startOf rs k0 ≤ m) := by apply decide_eq_decide.2; omega
  subst hm
  rw [okL, hv, lineOk, e1, e2, e3, mayB_nat]; simp
theorem okL_not {rs : List Item} {after to : Int} (h : itemsValid rs = false ∨ (after ≠ -1 ∧ mayB rs after = false) ∨ mayB rs to = false ∨ to ≤ after) : okL rs after to = false := by
  rcases h with h | ⟨h, h'⟩ | h | h
  · simp [okL, h]
  · simp [okL, lineOk, h, h']
  · simp [okL, lineOk, h]
  · simp [okL, lineOk]; intros; omega
theorem lineIts_not {rs : List Item} {after to : Int} (h : okL rs after to = false) : lineIts rs after to = [] := by simp [lineIts, h]
theorem lineIts_ok {rs : List Item} {after to : Int} (h : okL rs after to = true) (k0 m : Nat) (ha : after + 1 = k0) (hm : to = m) : lineIts rs after to = ints (idxs rs (startOf rs k0) m) := by
  subst hm
  have e1 : (after + 1).toNat = k0 := by omega
  simp [lineIts, h, e1]

set_option maxRecDepth 100000 in
set_option maxHeartbeats 3200000 in
theorem c_lineItems (A : Option Addr) (n c : Nat) (rs : List Item) (after to : Int) (w : World) (hR : ItemsAt w A n c rs) :
    Calls Try.prog 49 #[.slice A n c, .int .i64 after, .int .i64 to] w fun e w' => ∃ A' c', e = .returned (.tuple #[.slice A' (lineIts rs after to).length c', .bool (okL rs after to)]) ∧ OwnI w' w.heap.size A' c' (lineIts rs after to) ∧ Below w.heap.size w w' := by
  have hlen := hR.len
  have hbd := hR.bd
  go_enter Try.func49, Try.ntmps49
  go_wp2_with fail
  refine (c_itemsValid A n c rs _ hR).mono ?_
  rintro e w1 ⟨rfl, hb1⟩
  cases hv : itemsValid rs
  · have HK := hide (okL_not (after := after) (to := to) (.inl hv))
    clear hlen
    go_wp2
    go_ret2
    rw [unhide HK, lineIts_not (unhide HK)]
    exact ⟨none, 0, rfl, OwnI.nil_ _ _, hb1⟩
  · have hn60 := (itemsValid_iff.1 hv).2
    rw [hlen] at hn60
    have HV := hide hv
    have HLEN := hide hlen
    clear hv hlen
    by_cases ha : after = -1
    case' pos =>
      have hna : (after != -1) = false := by simp [ha]
      have HA : Hid ((decide (after = -1) || mayB rs after) = true) := by show _ = _; simp [ha]
      have hab : -1 ≤ after ∧ after < n := by omega
      clear ha
      go_wp2_with fail
    case' neg =>
      have hna : (after != -1) = true := by simpa using ha
      go_wp2_with fail
      refine (c_mayBreak A n c rs after _ (hR.next hb1)).mono ?_
      rintro e w2 ⟨rfl, hb2⟩
      replace hb1 := bnext hb1 hb2
      clear hb2
      cases hma : mayB rs after
      case' true =>
        have HA : Hid ((decide (after = -1) || mayB rs after) = true) := by show _ = _; simp [hma]
        have hab : -1 ≤ after ∧ after < n := by
          have := mayB_bd hma; rw [unhide HLEN] at this; omega
        clear ha hma
        go_wp2_with fail
      case' false =>
        have HK := hide (okL_not (rs := rs) (to := to) (.inr (.inl ⟨ha, hma⟩)))
        clear ha hma
        go_wp2
        go_ret2
        rw [unhide HK, lineIts_not (unhide HK)]
        exact ⟨none, 0, rfl, OwnI.nil_ _ _, hb1⟩
    all_goals
      rename World => wA
      rename Below w.heap.size w wA => hbA
      refine (c_mayBreak A n c rs to _ (hR.next hbA)).mono ?_
      rintro e wB ⟨rfl, hbB⟩
      replace hbB := bnext hbA hbB
      clear hbA
      cases hmt : mayB rs to
      case' false =>
        have HK := hide (okL_not (rs := rs) (after := after) (.inr (.inr (.inl hmt))))
        clear hmt
        go_wp2
        go_ret2
        rw [unhide HK, lineIts_not (unhide HK)]
        exact ⟨none, 0, rfl, OwnI.nil_ _ _, hbB⟩
      case' true =>
        have htb := mayB_bd hmt
        rw [unhide HLEN] at htb
        have HT := hide hmt
        clear hmt
        obtain ⟨k0, hk0⟩ := Int.eq_ofNat_of_zero_le (show 0 ≤ after + 1 by omega)
        obtain ⟨m, hm⟩ := Int.eq_ofNat_of_zero_le htb.1
        have HP := hide (okL_parts (unhide HV) k0 m hk0 hm)
        rw [unhide HA, Bool.true_and, ← mayB_nat, ← hm, unhide HT, Bool.true_and] at HP
        subst hm
        obtain rfl : after = (k0 : Int) - 1 := by omega
        have hmn : m < n := by omega
        have hkn : k0 ≤ n := by omega
        clear HT HA htb hab hk0
        by_cases hle : m < k0
        case' pos =>
          have hle' : (m : Int) ≤ (k0 : Int) - 1 := by omega
          have HK : Hid (okL rs ((k0 : Int) - 1) m = false) := by
            show _ = _; rw [unhide HP, show decide (k0 ≤ m) = false by simpa using hle]; rfl
          clear HP
          go_wp2
          go_ret2
          rw [unhide HK, lineIts_not (unhide HK)]
          exact ⟨none, 0, rfl, OwnI.nil_ _ _, hbB⟩
        case' neg =>
          have hle' : (k0 : Int) - 1 < m := by omega
          have hkm : k0 ≤ m := by omega
          rw [show decide (k0 ≤ m) = true by simpa using hkm, Bool.true_and] at HP
          have hg1 : decide ((m : Int) ≤ (k0 : Int) - 1) = false := by simp; omega
          clear hle
          go_wp2_with fail
          refine (c_lineStart A n c rs ((k0 : Int) - 1) k0 (by omega) hkn _ (hR.next hbB)).mono ?_
          rintro e wC ⟨rfl, hbC⟩
          replace hbC := bnext hbB hbC
          clear hbB
          obtain ⟨s, HS⟩ : ∃ s, Hid (s = startOf rs k0) := ⟨_, rfl⟩
          have hsk : k0 ≤ s := by rw [unhide HS]; exact startOf_ge _ _
          rw [← unhide HS] at HP ⊢
          by_cases hsm : m < s
          case' pos =>
            have HK : Hid (okL rs ((k0 : Int) - 1) m = false) := by
              show _ = _; rw [unhide HP, show decide (s ≤ m) = false by simpa using hsm]; rfl
            clear HP
            go_wp2
            go_ret2
            rw [unhide HK, lineIts_not (unhide HK)]
            exact ⟨none, 0, rfl, OwnI.nil_ _ _, hbC⟩
          case' neg =>
            have hsm' : s ≤ m := by omega
            rw [show decide (s ≤ m) = true by simpa using hsm', Bool.true_and] at HP
            have hg2 : decide (m < s) = false := by simp; omega
            clear hsm
            go_wp2
            go_loopw [8] (fun i wr => ∃ k : Nat, k0 ≤ k ∧ k ≤ m ∧ i = .int .i64 k ∧ Hid (noForced rs k0 k = true) ∧ Below w.heap.size w wr) (fun i _ => m - (intOf i).toNat)
            case atStart => exact ⟨k0, Nat.le_refl _, hkm, by go_num, noForced_start _ _, hbC⟩
            case round =>
              clear hbC
              obtain ⟨k, hk1, hk2, rfl, hnf, hb⟩ := hrel
              by_cases hlt : k < m
              · obtain ⟨b, off, r, rfl, hbl, hr, q0, q1, q2, q3, q4, q5, q6⟩ := (hR.next hb).at_ (k := k) (by omega)
                cases hf : forcedB r
                · have H : Hid (noForced rs k0 (k + 1) = true) := by show _ = _; rw [noForced_snoc hr hk1, unhide hnf, hf]; rfl
                  clear hnf hr
                  go_wp2_with (go_at_call 71; refine (c_forced r _).mono ?_; rintro e w1 ⟨rfl, hb1⟩)
                  go_roundw
                  case rel => exact ⟨k + 1, by omega, by omega, by go_num, H, bnext hb hb1⟩
                  case measure => simp [intOf]; omega
                · have HK : Hid (okL rs ((k0 : Int) - 1) m = false) := by
                    show _ = _; rw [unhide HP, noForced_not hr hk1 hlt hf]
                  clear HP hnf hr
                  go_wp2_with (go_at_call 71; refine (c_forced r _).mono ?_; rintro e w1 ⟨rfl, hb1⟩)
                  go_ret2
                  rw [unhide HK, lineIts_not (unhide HK)]
                  exact ⟨none, 0, rfl, OwnI.nil_ _ _, bnext hb hb1⟩
              · obtain rfl : k = m := by omega
                have HK : Hid (okL rs ((k0 : Int) - 1) k = true) := by show _ = _; rw [unhide HP, unhide hnf]
                clear HP hnf
                go_wp2_with fail
                refine (c_lineStart A n c rs ((k0 : Int) - 1) k0 (by omega) hkn _ (hR.next hb)).mono ?_
                rintro e w1 ⟨rfl, hb1⟩
                replace hb := bnext hb hb1
                rw [← unhide HS]
                clear hb1
                go_wp2
                go_loopw [9, 10] (fun o i wr => ∃ (q : Nat) (A' : Option Addr) (c' : Nat) (xs : List Int), s ≤ q ∧ q ≤ k ∧ i = .int .i64 q ∧ Hid (xs = ints (idxs rs s q)) ∧ o = .slice A' xs.length c' ∧ OwnI wr w.heap.size A' c' xs ∧ Below w.heap.size w wr) (fun _ i _ => k - (intOf i).toNat)
                case atStart => exact ⟨s, none, 0, [], Nat.le_refl _, hsm', rfl, by show _ = _; rw [idxs_start]; rfl, rfl, OwnI.nil_ _ _, hb⟩
                case round =>
                  clear hb
                  obtain ⟨q, A', c', xs, hq1, hq2, rfl, hxs, rfl, hown, hb⟩ := hrel
                  have hsz := hb.size
                  have hxl : xs.length ≤ 1000000 := by
                    rw [unhide hxs, ints_len]; have := idxs_len rs s q; omega
                  by_cases hlt : q < k
                  · obtain ⟨b, off, r, rfl, hbl, hr, q0, q1, q2, q3, q4, q5, q6⟩ := (hR.next hb).at_ (k := q) (by omega)
                    by_cases h3 : r.kind = 3
                    · have H : Hid (xs = ints (idxs rs s (q + 1))) := by show _ = _; rw [idxs_skip (by rw [itAt_of hr]; exact h3)]; exact unhide hxs
                      have q0' : wr.cell? ⟨b, off + q * 7, none⟩ = some (.int .i64 3) := by rw [q0, h3]
                      clear hxs hr h3 q0
                      go_wp2
                      go_roundw
                      case rel => exact ⟨q + 1, A', c', xs, by omega, by omega, by go_num, H, rfl, hown, hb⟩
                      case measure => simp [intOf]; omega
                    · have H : Hid (xs ++ [(q : Int)] = ints (idxs rs s (q + 1))) := by
                        show _ = _; rw [idxs_take hq1 (by rw [itAt_of hr]; exact h3), unhide hxs]; simp [ints]
                      have h3' : (r.kind != 3) = true := by simpa using h3
                      clear hxs hr h3
                      go_wp2_with (at_builtin; refine wpList_push_N (q : Int) rfl rfl hown rfl rfl (by omega) hsz ?_; intro A2 c2 w2 hown2 hg2 ho2)
                      go_roundw
                      case rel => exact ⟨q + 1, A2, c2, _, by omega, by omega, by go_num, H, by simp, hown2, b_own (bmk hb _) ho2 (Nat.le_refl _) hg2⟩
                      case measure => simp [intOf]; omega
                  · obtain rfl : q = k := by omega
                    have HX : Hid (lineIts rs ((k0 : Int) - 1) q = xs) := by
                      show _ = _; rw [lineIts_ok (unhide HK) k0 q (by omega) rfl, ← unhide HS, ← unhide hxs]
                    clear hxs
                    go_wp2
                    go_ret2
                    rw [unhide HX, unhide HK]
                    exact ⟨_, _, rfl, hown, hb⟩
end Go.Proofs.Ytadcbigioldejaa
