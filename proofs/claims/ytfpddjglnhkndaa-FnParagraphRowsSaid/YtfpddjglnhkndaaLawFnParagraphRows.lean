/- The walk of the law FnParagraphRows: for every code it returns true and changes nothing that was there. No condition. -/
import Derived.Test.YtfpddjglnhkndaaPara
import Derived.Test.YtfpddjglnhkndaaHeights
import Derived.Test.YtfpddjglnhkndaaSameRows
import Derived.Test.YtfpddjglnhkndaaDrawPara
import Derived.Test.YtfpddjglnhkndaaAlive
namespace Go.Proofs.Ytfpddjglnhkndaa
open Go.RowKit
set_option linter.unusedVariables false

theorem para_step {h v : Int} {t : List Int} {acc r : List Row} (e : paraGo h (v :: t) acc = some r) : 1 ≤ v ∧ v ≤ 30 - (acc.length : Int) ∧ paraGo h t (acc ++ (List.range v.toNat).map (paraRow h v.toNat)) = some r := by
  rw [paraGo] at e
  split at e
  · rename_i hv; exact ⟨hv.1, hv.2, e⟩
  · cases e
theorem paraGo_pre (h : Int) : ∀ (l : List Int) (acc r : List Row), paraGo h l acc = some r → ∃ t, r = acc ++ t
  | [], acc, r, e => by simp [paraGo] at e; exact ⟨[], by simp [e]⟩
  | v :: l, acc, r, e => by
    obtain ⟨_, _, e'⟩ := para_step e
    obtain ⟨t, ht⟩ := paraGo_pre h l _ r e'
    exact ⟨_, by rw [ht, List.append_assoc]⟩
theorem para_last (h : Int) (acc t : List Row) (m : Nat) (hm : 1 ≤ m) : ((acc ++ (List.range m).map (paraRow h m)) ++ t)[acc.length + m - 1]? = some ⟨h, false, 0, 0⟩ := by
  rw [List.append_assoc, List.getElem?_append_right (by omega), show acc.length + m - 1 - acc.length = m - 1 by omega, List.getElem?_append_left (by simp; omega)]
  simp [show m - 1 < m by omega, paraRow]
  omega
theorem paraGo_all (h : Int) : ∀ (l : List Int) (acc r : List Row), (∀ x ∈ acc, ∃ k, x = ⟨h, k, 0, 0⟩) → paraGo h l acc = some r → ∀ x ∈ r, ∃ k, x = ⟨h, k, 0, 0⟩
  | [], acc, r, ha, e => by simp [paraGo] at e; subst e; exact ha
  | v :: l, acc, r, ha, e => by
    obtain ⟨_, _, e'⟩ := para_step e
    refine paraGo_all h l _ r (fun x hx => ?_) e'
    rcases List.mem_append.1 hx with hx | hx
    · exact ha x hx
    · obtain ⟨j, _, rfl⟩ := List.mem_map.1 hx
      exact ⟨_, rfl⟩
theorem sumH_const (h : Int) : ∀ {r : List Row}, (∀ x ∈ r, ∃ k, x = (⟨h, k, 0, 0⟩ : Row)) → sumH r = h * r.length
  | [], _ => by simp [sumH]
  | x :: t, hx => by
    obtain ⟨k, rfl⟩ := hx x (by simp)
    have ih := sumH_const h (r := t) (fun y hy => hx y (by simp [hy]))
    have : sumH ((⟨h, k, 0, 0⟩ : Row) :: t) = h + sumH t := by simp [sumH]
    rw [this, ih, List.length_cons]
    simp [Int.mul_add]; omega

set_option maxHeartbeats 1600000 in
theorem w_FnParagraphRows (A : Option Addr) (n c : Nat) (xs : List Int) (w : World) (h : CodeAt w A n c xs) :
    Calls Try.prog 10 #[.slice A n c] w fun e w' => e = .returned (.bool true) ∧ Below w.heap.size w w' := by
  have hcm := h.2
  unfold maxLen at hcm
  by_cases hbig : 1048576 < n
  · go_enter Try.func10, Try.ntmps10
    go_wp2
    go_ret
    exact ⟨rfl, Below.refl _ _⟩
  · go_enter Try.func10, Try.ntmps10
    go_wp2_with fail
    refine (c_drawParagraphRows A n c xs _ h).mono ?_
    rintro e w1 ⟨A1, c1, hs, y, rfl, hl1, I, B⟩
    obtain ⟨X, HX⟩ : ∃ X, Hid (X = paraRows hs y) := ⟨_, rfl⟩
    have hX30 : X.length ≤ 30 := by rw [unhide HX]; exact paraRows_len hs y
    go_wp2_with fail
    refine (c_paragraphRows A1 _ c1 hs y _ I.at_).mono ?_
    rintro e w2 ⟨A2, c2, he, R, hb⟩
    rw [← unhide HX] at he R
    subst he
    replace B := bnext B hb
    replace I := I.next hb
    clear hb
    go_wp2_with fail
    refine (c_paragraphRows' A1 _ c1 hs y _ I.at_).mono ?_
    rintro e w3 ⟨A3, c3, he, R', hb⟩
    rw [← unhide HX] at he R'
    subst he
    replace B := bnext B hb
    replace I := I.next hb
    replace R := R.next hb
    clear hb
    go_wp2_with fail
    refine (c_sameRows_same _ _ _ _ _ _ X _ R.at_ R'.at_).mono ?_
    rintro e w4 ⟨rfl, hb⟩
    replace B := bnext B hb
    replace I := I.next hb
    replace R := R.next hb
    clear hb R'
    by_cases h0 : X.length = 0
    · have hz : ((X.length : Int) == 0) = true := by simp [h0]
      clear h0
      go_wp2_with fail
      refine (c_alive _).mono ?_
      rintro e w5 ⟨rfl, hb⟩
      go_wp2
      go_ret
      exact ⟨rfl, bnext B hb⟩
    · have hz : ((X.length : Int) == 0) = false := by simp; intro e; exact h0 (by simp [e])
      have hyb : inB y 1 1000 = true := by
        cases hy : inB y 1 1000
        · exfalso; apply h0; rw [unhide HX]; simp [paraRows, hy]
        · rfl
      have hgo : paraGo y hs [] = some X := by
        have e := unhide HX
        rw [paraRows, if_pos hyb] at e
        cases hg : paraGo y hs [] with
        | none => rw [hg] at e; exfalso; apply h0; rw [e]; rfl
        | some r => rw [hg] at e; rw [e]; rfl
      have hy2 := inB_iff.1 hyb
      have hall := paraGo_all y hs [] X (by simp) hgo
      have hvalid : rowsValid X = true := by
        rw [rowsValid_iff]
        refine ⟨List.all_eq_true.2 fun x hx => ?_, hX30⟩
        obtain ⟨k, rfl⟩ := hall x hx
        simp [rowValid, inB, hy2.1, hy2.2]
      have hsum : heightOf X = y * X.length := by
        rw [heightOf, if_pos hvalid]; exact sumH_const y hall
      have hHS := hide hsum
      have HGO := hide hgo
      have HV := hide hvalid
      have hlb := I.at_.bd
      clear hgo hall hvalid hsum hyb h0
      go_wp2
      go_loopw [6, 7] (fun a i wr => ∃ (k : Nat) (acc : List Row), k ≤ hs.length ∧ i = .int .i64 k ∧ a = .int .i64 acc.length ∧ Hid (paraGo y (hs.drop k) acc = some X) ∧ OwnI wr w.heap.size A1 c1 hs ∧ (Value.slice A2 X.length c2 = Value.slice A2 X.length c2 ∧ ∃ BR, OwnR wr BR A2 c2 X) ∧ Below w.heap.size w wr) (fun _ i _ => hs.length - (intOf i).toNat)
      case atStart => exact ⟨0, [], Nat.zero_le _, rfl, rfl, HGO, I, ⟨rfl, _, R⟩, B⟩
      case round =>
        clear I R B
        obtain ⟨k, acc, hk, rfl, rfl, hg, I, ⟨_, BR, R⟩, B⟩ := hrel
        by_cases hlt : k < hs.length
        · obtain ⟨b, off, x, rfl, hbl, hx, hc⟩ := I.at_.at_ hlt
          have hg2 := unhide hg
          rw [drop_get hx] at hg2
          obtain ⟨hx1, hx2, hg3⟩ := para_step hg2
          obtain ⟨m, rfl⟩ := Int.eq_ofNat_of_zero_le (show 0 ≤ x by omega)
          obtain ⟨t, ht⟩ := paraGo_pre y _ _ _ hg3
          have hg3' : paraGo y (hs.drop (k + 1)) (acc ++ (List.range m).map (paraRow y m)) = some X := hg3
          have hlast : X[acc.length + m - 1]? = some ⟨y, false, 0, 0⟩ := by
            rw [ht]; exact para_last y acc t m (by omega)
          have hlx := get_lt hlast
          obtain ⟨b2, off2, r, rfl, hbl2, hr, p0, p1, p2, p3⟩ := R.at_.at_ hlx
          rw [hlast] at hr
          obtain rfl := Option.some.inj hr
          have H3 := hide hg3'
          clear hg2 hg3 hg3' ht hlast hr p0 p2 p3 hx hg
          go_wp2
          go_roundw
          case rel => exact ⟨k + 1, acc ++ (List.range m).map (paraRow y m), by omega, by go_num, by simp, H3, I, ⟨trivial, _, R⟩, B⟩
          case measure => simp [intOf]; omega
        · have hacc : acc = X := by
            have := unhide hg
            rw [drop_end (by omega), paraGo] at this
            exact Option.some.inj this
          subst hacc
          have hz2 : ((acc.length : Int) == acc.length) = true := by simp
          have hsum2 : heightOf acc = y * (acc.length : Int) := unhide hHS
          have hval2 : rowsValid acc = true := unhide HV
          have hm1 : 0 ≤ y * (acc.length : Int) := Int.mul_nonneg (by omega) (by omega)
          have hm2 : y * (acc.length : Int) ≤ 1000 * 30 := by
            have h1 : y * (acc.length : Int) ≤ 1000 * (acc.length : Int) := Int.mul_le_mul_of_nonneg_right (by omega) (by omega)
            omega
          clear hg HGO hHS HV
          go_wp2_with fail
          refine (c_rowsValid _ _ _ acc _ R.at_).mono ?_
          rintro e w6 ⟨he, hb⟩
          rw [hval2] at he
          subst he
          replace B := bnext B hb
          replace R := R.next hb
          clear hb hval2
          go_wp2_with fail
          refine (c_heightOf _ _ _ acc _ R.at_).mono ?_
          rintro e w7 ⟨he, hb⟩
          rw [hsum2] at he
          subst he
          clear hsum2
          have hz3 : (y * (acc.length : Int) == y * (acc.length : Int)) = true := by simp
          go_wp2
          go_ret
          exact ⟨rfl, bnext B hb⟩
end Go.Proofs.Ytfpddjglnhkndaa
