/- The walk of the law FnPageHeadings: for every code it returns true and changes nothing that was there. No condition. -/
import Derived.Test.YtdjilkohnhejiaaPageHeads
import Derived.Test.YtdjilkohnhejiaaDrawHeads2
import Derived.Test.YtdjilkohnhejiaaAlive
namespace Go.Proofs.Ytdjilkohnhejiaa
open Go.RowKit
set_option linter.unusedVariables false

theorem pGo_pre (rs : List Heading) : ∀ (es : List Int) (fr : Int) (acc l : List Int), pGo rs fr es acc = some l → ∃ t, l = acc ++ t
  | [], fr, acc, l, h => by simp [pGo] at h; exact ⟨[], by simp [h]⟩
  | x :: t, fr, acc, l, h => by
    rw [pGo] at h
    split at h
    · obtain ⟨r, hr⟩ := pGo_pre rs t _ _ l h
      exact ⟨_, by rw [hr, List.append_assoc]⟩
    · cases h
theorem pGo_step {rs : List Heading} {fr x : Int} {t acc l : List Int} (h : pGo rs fr (x :: t) acc = some l) : pGo rs x t (acc ++ [(headsOf rs fr x).f]) = some l ∧ l[acc.length]? = some (headsOf rs fr x).f := by
  rw [pGo] at h
  split at h
  · obtain ⟨r, hr⟩ := pGo_pre rs t _ _ l h
    exact ⟨h, by rw [hr]; simp⟩
  · cases h

set_option maxHeartbeats 1600000 in
theorem w_FnPageHeadings (A : Option Addr) (n c : Nat) (xs : List Int) (w : World) (h : CodeAt w A n c xs) :
    Calls Try.prog 8 #[.slice A n c] w fun e w' => e = .returned (.bool true) ∧ Below w.heap.size w w' := by
  have hcm := h.2
  unfold maxLen at hcm
  by_cases hbig : 1048576 < n
  · go_enter Try.func8, Try.ntmps8
    go_wp2
    go_ret
    exact ⟨rfl, Below.refl _ _⟩
  · go_enter Try.func8, Try.ntmps8
    go_wp2_with fail
    refine (c_drawPageHeadings A n c xs _ h).mono ?_
    rintro e w1 ⟨A1, c1, rs, A2, c2, es, rfl, hl1, hl2, R, I, B⟩
    obtain ⟨X, HX⟩ : ∃ X, Hid (X = pageHeads rs es) := ⟨_, rfl⟩
    have hX5 : X.length ≤ 5 := by rw [unhide HX]; exact Nat.le_trans (pageHeads_len rs es) hl2
    go_wp2_with fail
    refine (c_pageHeads A1 _ c1 rs A2 _ c2 es _ R.at_ I.at_ (by omega)).mono ?_
    rintro e w2 ⟨A3, c3, he, O, hb⟩
    rw [← unhide HX] at he O
    subst he
    replace B := bnext B hb
    replace R := R.next hb
    replace I := I.next hb
    clear hb
    go_wp2_with fail
    refine (c_pageHeads' A1 _ c1 rs A2 _ c2 es _ R.at_ I.at_ (by omega)).mono ?_
    rintro e w3 ⟨A4, c4, he, O', hb⟩
    rw [← unhide HX] at he O'
    subst he
    replace B := bnext B hb
    replace R := R.next hb
    replace I := I.next hb
    replace O := O.next hb
    clear hb
    go_wp2_with fail
    refine (c_sameInts_same _ _ _ _ _ _ X _ O.at_ O'.at_).mono ?_
    rintro e w4 ⟨rfl, hb⟩
    replace B := bnext B hb
    replace R := R.next hb
    replace I := I.next hb
    replace O := O.next hb
    clear hb O'
    by_cases h0 : X.length = 0
    · have hz : ((X.length : Int) == 0) = true := by simp [h0]
      clear h0
      go_wp2_with fail
      refine (c_alive _).mono ?_
      rintro e w5 ⟨rfl, hb⟩
      go_wp2
      go_ret
      exact ⟨rfl, bnext B hb⟩
    · have hz : ((X.length : Int) == 0) = false := by simp; intro e; exact h0 (by simp [e])
      have hgo : pGo rs 0 es [] = some X := by
        have e := unhide HX
        rw [pageHeads] at e
        cases hv : headsValid rs with
        | false => rw [hv] at e; exfalso; apply h0; rw [e]; rfl
        | true =>
          rw [hv, if_pos rfl] at e
          cases hg : pGo rs 0 es [] with
          | none => rw [hg] at e; exfalso; apply h0; rw [e]; rfl
          | some r => rw [hg] at e; rw [e]; rfl
      have hXl : X.length = es.length := by have := pGo_len rs es 0 [] X hgo; simpa using this
      have HGO := hide hgo
      have HXL := hide hXl
      have hbdI := I.at_.bd
      have hbdO := O.at_.bd
      clear hgo hXl h0
      go_wp2
      go_loopw [6, 7] (fun f i wr => ∃ (fr : Int) (acc : List Int), acc.length ≤ es.length ∧ i = .int .i64 acc.length ∧ f = .int .i64 fr ∧ Hid (pGo rs fr (es.drop acc.length) acc = some X) ∧
        OwnH wr w.heap.size A1 c1 rs ∧ OwnI wr w.heap.size A2 c2 es ∧ (∃ BO, OwnI wr BO A3 c3 X) ∧ Below w.heap.size w wr) (fun _ i _ => es.length - (intOf i).toNat)
      case atStart => exact ⟨0, [], Nat.zero_le _, rfl, rfl, HGO, R, I, ⟨_, O⟩, B⟩
      case round =>
        clear R I O B
        obtain ⟨fr, acc, hk, rfl, rfl, hg, R, I, ⟨BO, O⟩, B⟩ := hrel
        by_cases hlt : acc.length < es.length
        · have hlt2 : acc.length < X.length := by rw [unhide HXL]; exact hlt
          obtain ⟨b, off, x, rfl, hbl, hx, hc⟩ := I.at_.at_ hlt
          have hg2 := unhide hg
          rw [drop_get hx] at hg2
          obtain ⟨hg3, hXk⟩ := pGo_step hg2
          have HX1 := hide hx
          clear hx hg2
          obtain ⟨v1, HV1⟩ : ∃ y, Hid (y = (headsOf rs fr x).b) := ⟨_, rfl⟩
          obtain ⟨v2, HV2⟩ : ∃ y, Hid (y = (headsOf rs fr x).f) := ⟨_, rfl⟩
          obtain ⟨v3, HV3⟩ : ∃ y, Hid (y = (headsOf rs fr x).l) := ⟨_, rfl⟩
          rw [← unhide HV2] at hg3 hXk
          have HG3 := hide hg3
          have HXK := hide hXk
          clear hg3 hXk
          go_wp2_with fail
          refine (c_headsOfL A1 _ c1 rs fr x _ R.at_).mono ?_
          rintro e w5 ⟨he, hb⟩
          rw [← unhide HV1, ← unhide HV2, ← unhide HV3] at he
          subst he
          replace B := bnext B hb
          replace R := R.next hb
          replace I := I.next hb
          replace O := O.next hb
          clear hb hc
          obtain ⟨b', off', x', e', hbl', hx', hc⟩ := I.at_.at_ hlt
          obtain ⟨rfl, rfl, _⟩ := (by simpa using e' : b = b' ∧ off = off')
          rw [unhide HX1] at hx'
          obtain rfl := Option.some.inj hx'
          clear hx' e'
          obtain ⟨b3, off3, m, rfl, hbl3, hm, hcm⟩ := O.at_.at_ hlt2
          rw [unhide HXK] at hm
          obtain rfl := Option.some.inj hm
          clear hm
          have hne : (v2 != v2) = false := by simp
          have hl3 : ((acc ++ [v2]).length) = acc.length + 1 := by simp
          have HL3 := hide hl3
          clear hl3
          go_wp2
          go_roundw
          case rel => exact ⟨x, acc ++ [v2], by rw [unhide HL3]; omega, by rw [unhide HL3]; go_num, rfl, by rw [unhide HL3]; exact HG3, R, I, ⟨_, O⟩, B⟩
          case measure => simp [intOf]; omega
        · have hlt2 : ¬ acc.length < X.length := by rw [unhide HXL]; exact hlt
          have hzz : ((X.length : Int) == (es.length : Int)) = true := by rw [unhide HXL]; simp
          go_wp2
          go_ret
          exact ⟨rfl, B⟩
end Go.Proofs.Ytdjilkohnhejiaa
