/- The walk of the law FnTablePlaces: for every code it returns true and changes nothing that was there. No condition. -/
import Derived.Test.YtdjilkohnhejiaaTables2
import Derived.Test.YtdjilkohnhejiaaDrawEntries2
import Derived.Test.YtdjilkohnhejiaaAlive
namespace Go.Proofs.Ytdjilkohnhejiaa
open Go.RowKit
set_option linter.unusedVariables false

set_option maxHeartbeats 3200000 in
theorem w_FnTablePlaces (A : Option Addr) (n c : Nat) (xs : List Int) (w : World) (h : CodeAt w A n c xs) :
    Calls Try.prog 15 #[.slice A n c] w fun e w' => e = .returned (.bool true) ∧ Below w.heap.size w w' := by
  have hcm := h.2
  unfold maxLen at hcm
  by_cases hbig : 1048576 < n
  · go_enter Try.func15, Try.ntmps15
    go_wp2
    go_ret
    exact ⟨rfl, Below.refl _ _⟩
  · go_enter Try.func15, Try.ntmps15
    go_wp2_with fail
    refine (c_drawTablePlaces A n c xs _ h).mono ?_
    rintro e w1 ⟨A1, c1, rs, m, gap, rfl, hl1, ⟨hm0, hm7⟩, ⟨hg0, hg1⟩, R, B⟩
    obtain ⟨X, HX⟩ : ∃ X, Hid (X = tablePlaces rs m gap) := ⟨_, rfl⟩
    obtain ⟨q, HQ⟩ : ∃ q, Hid (q = tableWide rs m gap) := ⟨_, rfl⟩
    have hX6 : X.length ≤ 6 := by rw [unhide HX]; exact tablePlaces_len rs m gap
    clear hbig hcm h
    go_wp2_with fail
    refine (c_tablePlaces A1 _ c1 rs m gap _ R.at_).mono ?_
    rintro e w2 ⟨A2, c2, he, O, hb⟩
    rw [← unhide HX, ← unhide HQ] at he
    rw [← unhide HX] at O
    subst he
    replace B := bnext B hb
    replace R := R.next hb
    clear hb
    go_wp2_with fail
    refine (c_tablePlaces' A1 _ c1 rs m gap _ R.at_).mono ?_
    rintro e w3 ⟨A3, c3, he, O', hb⟩
    rw [← unhide HX, ← unhide HQ] at he
    rw [← unhide HX] at O'
    subst he
    replace B := bnext B hb
    replace R := R.next hb
    replace O := O.next hb
    clear hb
    have hqq : (q != q) = false := by simp
    cases hok : tableOk rs m gap
    · obtain rfl : q = -1 := by rw [unhide HQ]; simp [tableWide, hok]
      have hX0 : X.length = 0 := by rw [unhide HX]; simp [tablePlaces, hok]
      have hz : ((X.length : Int) == 0) = true := by simp [hX0]
      clear hX0 hok hqq
      go_wp2_with fail
      refine (c_sameInts_same _ _ _ _ _ _ X _ O.at_ O'.at_).mono ?_
      rintro e w4 ⟨rfl, hb⟩
      replace B := bnext B hb
      clear hb O'
      go_wp2_with fail
      refine (c_alive _).mono ?_
      rintro e w6 ⟨rfl, hb⟩
      go_wp2
      go_ret
      exact ⟨rfl, bnext B hb⟩
    · have hok' := hok
      simp only [tableOk, Bool.and_eq_true] at hok'
      obtain ⟨hv, hgp⟩ := hok'
      obtain ⟨hm1, hm2, hl, hall⟩ := valid_parts hv
      obtain ⟨hg2, hg3⟩ := inB_iff.1 hgp
      obtain ⟨M, rfl⟩ := Int.eq_ofNat_of_zero_le (show 0 ≤ m by omega)
      obtain ⟨ws, HWS⟩ : ∃ ws, Hid (ws = tw rs M) := ⟨_, rfl⟩
      have hT : tableWidths rs (M : Int) = ws := by rw [unhide HWS]; simp [tableWidths, hv]
      have hwl : ws.length = M := by rw [unhide HWS]; exact tw_len rs M
      have hwb : ∀ x ∈ ws, 0 ≤ x ∧ x ≤ 1000 := by rw [unhide HWS]; exact tw_bd (fun e he => (entries_w hall e he).2.2.2.2.2) M
      have hXp : X = placesOf ws gap M := by rw [unhide HX, unhide HWS]; simp [tablePlaces, hok]
      have hqs : q = ws.sum + gap * ((M : Int) - 1) := by rw [unhide HQ, unhide HWS]; simp [tableWide, hok]
      have hXl : X.length = M := by rw [hXp]; exact placesOf_len ws gap M
      have hq0 : 0 ≤ q := by
        have h1 := sum_bd hwb
        have h2 : 0 ≤ gap * ((M : Int) - 1) := Int.mul_nonneg (by omega) (by omega)
        omega
      have HT := hide hT
      have HWL := hide hwl
      have HWB := hide hwb
      have HXP := hide hXp
      have HQS := hide hqs
      have HXL := hide hXl
      have hwl6 : ws.length ≤ 6 := by rw [hwl]; omega
      clear hT hwl hwb hXp hqs hXl hall hl hv hgp hok
      go_wp2_with fail
      refine (c_sameInts_same _ _ _ _ _ _ X _ O.at_ O'.at_).mono ?_
      rintro e w4 ⟨rfl, hb⟩
      replace B := bnext B hb
      replace R := R.next hb
      replace O := O.next hb
      clear hb O' hqq
      go_wp2_with fail
      refine (c_tableWidths A1 _ c1 rs M _ R.at_).mono ?_
      rintro e w5 ⟨A5, c5, he, V, hb⟩
      rw [unhide HT] at he V
      subst he
      replace B := bnext B hb
      replace O := O.next hb
      clear hb
      have V' := V.at_
      have O' := O.at_
      go_wp2
      go_loop [11, 12] (fun s i => ∃ (k : Nat) (p : Int), k ≤ X.length ∧ i = .int .i64 k ∧ s = .int .i64 p ∧ Hid (p = placeAt ws gap k) ∧ 0 ≤ p ∧ p ≤ 2000 * (k : Int)) (fun _ i => X.length - (intOf i).toNat)
      case atStart => exact ⟨0, 0, Nat.zero_le _, rfl, rfl, by show _ = _; simp [placeAt], by omega, by omega⟩
      case round =>
        obtain ⟨k, p, hk, rfl, rfl, hp, hp0, hp1⟩ := hrel
        by_cases hlt : k < X.length
        · have hlt2 : k < ws.length := by rw [unhide HWL, ← unhide HXL]; exact hlt
          obtain ⟨b, off, x, rfl, hbl, hx, hc⟩ := O'.at_ hlt
          obtain ⟨b3, off3, y, rfl, hbl3, hy, hcell⟩ := V'.at_ hlt2
          obtain ⟨hx0, hx1⟩ := unhide HWB y (mem_of_get hy)
          have hxp : x = p := by
            have h1 : X[k]? = some (placeAt ws gap k) := by
              rw [unhide HXP, placesOf, List.getElem?_map, List.getElem?_range (by rw [← unhide HXL]; exact hlt)]; rfl
            rw [h1] at hx
            rw [unhide hp]; exact (Option.some.inj hx).symm
          subst hxp
          have hps : x + y + gap = placeAt ws gap (k + 1) := by rw [placeAt_step hy, ← unhide hp]; omega
          have HPS := hide hps
          have hne : (x != x) = false := by simp
          clear hx hy hps
          go_wp2
          go_round
          case rel => exact ⟨k + 1, x + y + gap, by omega, by go_num, rfl, HPS, by omega, by omega⟩
          case measure => simp [intOf]; omega
        · have hkM : k = M := by rw [← unhide HXL]; omega
          have hfin : q = p - gap := by
            rw [unhide HQS, unhide hp, placeAt, List.take_of_length_le (by rw [unhide HWL]; omega), hkM, Int.mul_sub]; omega
          have hb1 : (q == p - gap) = true := by simp [hfin]
          have hb2 : ((X.length : Int) == (M : Int)) = true := by rw [unhide HXL]; simp
          have hb3 : X.length = M := unhide HXL
          have HB3 := hide hb3
          clear hfin hkM hb3
          go_wp2
          go_ret
          exact ⟨rfl, B⟩
end Go.Proofs.Ytdjilkohnhejiaa
