/- The reference's FirstBreaks: contract. No condition. -/
import Derived.Test.YtadcbigioldejaaFirst
namespace Go.Proofs.Ytadcbigioldejaa
open Go.RowKit
set_option linter.unusedVariables false

theorem lineBad_not {rs : List Item} {after to width : Int} (h : lineOk rs after to = false) : lineBad rs after to width = (-1, false) := by
  have : fitsB rs after to width = false := by rw [fitsB, h]; simp
  rw [lineBad, this]; rfl
theorem lineBad_ok {rs : List Item} {after to width : Int} (hv : itemsValid rs = true) (hl : lineOk rs after to = true) (hw : 0 ≤ width ∧ width ≤ 1000) : lineBad rs after to width = badOf (lineTot rs after to) width := by
  rw [lineBad, if_pos (fitsB_iff.2 ⟨hv, hl, hw⟩)]
theorem last_yes {p : Nat → Bool} {J : Nat} (h : p (J + 1) = true) : lastGood p (J + 1) = J + 1 := by rw [lastGood, if_pos h]
theorem last_no {p : Nat → Bool} {J : Nat} (h : p (J + 1) = false) : lastGood p (J + 1) = lastGood p J := by rw [lastGood, h]; rfl
theorem fitJ_at {rs : List Item} {width most : Int} {a J : Nat} {bad : Int} (h : (lineBad rs ((a : Int) - 1) (J : Int) width).1 = bad) : fitJ rs width most a (J + 1) = inB bad 0 most := by
  have e : (((J + 1 : Nat) : Int) - 1) = (J : Int) := by omega
  rw [fitJ, e, h]
set_option maxRecDepth 100000 in
set_option maxHeartbeats 3200000 in
theorem c_firstBreaks' (A : Option Addr) (n c : Nat) (rs : List Item) (width most : Int) (w : World) (hR : ItemsAt w A n c rs) :
    Calls Try.prog 19 #[.slice A n c, .int .i64 width, .int .i64 most] w fun e w' => ∃ A' c', e = .returned (.tuple #[.slice A' (firstBreaks rs width most).length c', .bool (firstBr rs width most).isSome]) ∧ OwnI w' w.heap.size A' c' (firstBreaks rs width most) ∧ Below w.heap.size w w' := by
  have hlen := hR.len
  have hbd := hR.bd
  have O0 := OwnI.fresh w
  have hb0 := bof w (.cells #[] 3)
  have HLEN := hide hlen
  clear hlen
  go_enter Try.func19, Try.ntmps19
  go_wp2_with fail
  refine (c_itemsValid' A n c rs _ (hR.next hb0)).mono ?_
  rintro e w1 ⟨rfl, hb1⟩
  replace O0 := O0.next hb1
  replace hb0 := bnext hb0 hb1
  clear hb1
  by_cases hargs : argsB rs width most = true
  case' neg =>
    have H := hide (firstBr_not (show argsB rs width most = false by simpa using hargs))
    have HN : itemsValid rs = false ∨ (itemsValid rs = true ∧ inB width 0 1000 = false) ∨ (itemsValid rs = true ∧ inB width 0 1000 = true ∧ inB most 0 10000 = false) ∨ (itemsValid rs = true ∧ inB width 0 1000 = true ∧ inB most 0 10000 = true ∧ n = 0) := by
      have hh : argsB rs width most = false := by simpa using hargs
      rw [argsB, unhide HLEN] at hh
      cases h1 : itemsValid rs <;> cases h2 : inB width 0 1000 <;> cases h3 : inB most 0 10000 <;> simp [h1, h2, h3] at hh ⊢
      exact hh
    clear hargs
    rcases HN with h | ⟨h, h2⟩ | ⟨h, h2, h3⟩ | ⟨h, h2, h3, rfl⟩
    all_goals
      rw [h]
      go_wp2_with (go_at_call 37; refine (c_l1In _ _ _ _).mono ?_; rintro e w' ⟨rfl, rfl⟩)
      go_ret2
      rw [(unhide H).1, (unhide H).2]
      exact ⟨_, 0, rfl, O0, hb0⟩
  case' pos =>
    obtain ⟨hv, hn0, hw, hm⟩ := argsB_iff.1 hargs
    have hn60 := (itemsValid_iff.1 hv).2
    have HVAL := hide (itemsValid_iff.1 hv).1
    rw [unhide HLEN] at hn60 hn0
    have i1 : inB width 0 1000 = true := inB_iff.2 hw
    have i2 : inB most 0 10000 = true := inB_iff.2 hm
    have hnz : ((n : Int) == 0) = false := by simp; omega
    have HW := hide hw
    obtain ⟨X, HX⟩ : ∃ X, Hid (firstBr rs width most = X) := ⟨_, rfl⟩
    have HX2 : Hid (X = firstGo rs width most n 0) := by show _ = _; rw [← unhide HX, firstBr, if_pos hargs, unhide HLEN]
    have HXB : Hid (firstBreaks rs width most = X.getD []) := by show _ = _; rw [firstBreaks, unhide HX]
    have HV := hide hv
    rw [hv]
    clear hv hargs
    go_wp2_with (go_at_call 37; refine (c_l1In _ _ _ _).mono ?_; rintro e w' ⟨rfl, rfl⟩)
    clear i1 i2
    go_loopw [8, 9] (fun o t wr => ∃ (a f : Nat) (A' : Option Addr) (c' : Nat) (acc : List Int), a ≤ n ∧ t = .int .i64 ((a : Int) - 1) ∧ o = .slice A' acc.length c' ∧ acc.length ≤ a ∧ Hid (X = (firstGo rs width most f a).map (acc ++ ·) ∧ n - a ≤ f) ∧ OwnI wr w.heap.size A' c' acc ∧ Below w.heap.size w wr) (fun _ t _ => n - (intOf t + 1).toNat)
    case atStart => exact ⟨0, n, _, 0, [], Nat.zero_le _, rfl, rfl, Nat.zero_le _, ⟨by rw [unhide HX2]; simp, by omega⟩, O0, hb0⟩
    case round =>
      clear hb0 O0
      obtain ⟨a, f, A', c', acc, ha, rfl, rfl, hal, hgo, hown, hb⟩ := hrel
      by_cases hlt : a < n
      · have hlt' : (a : Int) - 1 < (n : Int) - 1 := by omega
        go_wp2
        obtain ⟨wL, rfl⟩ : ∃ wL : World, wL = wr := ⟨_, rfl⟩
        go_loopw [10, 11] (fun fo t wr => ∃ (J : Nat) (K : Int), a ≤ J ∧ J ≤ n ∧ t = .int .i64 J ∧ fo = .int .i64 K ∧ Hid (K = (lastGood (fitJ rs width most a) J : Int) - 1) ∧ Below wL.heap.size wL wr) (fun _ t _ => n - (intOf t).toNat)
        case atStart => exact ⟨a, -1, Nat.le_refl _, by omega, by go_num, rfl, by show _ = _; rw [lastGood_low]; rfl, Below.refl _ _⟩
        case round =>
          obtain ⟨J, K, hJa, hJn, rfl, rfl, hlg, hbL⟩ := hrel
          by_cases hgt : J < n
          · go_wp2_with fail
            refine (c_l7Line A n c rs _ _ _ (hR.next (bnext hb hbL)) (unhide HVAL) hn60).mono ?_
            rintro e w2 ⟨rfl, hb2⟩
            replace hbL := bnext hbL hb2
            clear hb2
            cases hl : lineOk rs ((a : Int) - 1) (J : Int)
            · have H : Hid (K = (lastGood (fitJ rs width most a) (J + 1) : Int) - 1) := by
                show _ = _; rw [unhide hlg, last_no (by rw [fitJ_at (by rw [lineBad_not hl])]; rfl)]
              clear hlg hl
              go_wp2
              go_roundw
              case rel => exact ⟨J + 1, K, by omega, by omega, by go_num, rfl, H, hbL⟩
              case measure => simp [intOf] <;> omega
            · obtain ⟨bad, st, HB⟩ : ∃ bad st, Hid (badOf (lineTot rs ((a : Int) - 1) (J : Int)) width = (bad, st)) := ⟨_, _, rfl⟩
              have HF : Hid (fitJ rs width most a (J + 1) = inB bad 0 most) := fitJ_at (by rw [lineBad_ok (unhide HV) hl (unhide HW), unhide HB])
              have HLO := hide hl
              clear hl
              go_wp2_with fail
              refine (c_l7Bad A n c rs _ _ width _ (hR.next (bnext hb hbL)) (unhide HV) (unhide HLO) (unhide HW) bad st HB).mono ?_
              rintro e w3 ⟨rfl, hb3⟩
              replace hbL := bnext hbL hb3
              clear hb3 HB HLO
              by_cases hb0 : 0 ≤ bad
              · by_cases hb1 : bad ≤ most
                · have H : Hid ((J : Int) = (lastGood (fitJ rs width most a) (J + 1) : Int) - 1) := by
                    show _ = _; rw [last_yes (by rw [unhide HF]; exact inB_iff.2 ⟨hb0, hb1⟩)]; omega
                  clear hlg HF
                  go_wp2
                  go_roundw
                  case rel => exact ⟨J + 1, J, by omega, by omega, by go_num, rfl, H, hbL⟩
                  case measure => simp [intOf] <;> omega
                · have H : Hid (K = (lastGood (fitJ rs width most a) (J + 1) : Int) - 1) := by
                    show _ = _; rw [unhide hlg, last_no (by rw [unhide HF]; exact inB_not.2 (.inr (by omega)))]
                  have hd : decide (bad ≤ most) = false := by simpa using hb1
                  clear hlg HF
                  go_wp2
                  go_roundw
                  case rel => exact ⟨J + 1, K, by omega, by omega, by go_num, rfl, H, hbL⟩
                  case measure => simp [intOf] <;> omega
              · have H : Hid (K = (lastGood (fitJ rs width most a) (J + 1) : Int) - 1) := by
                  show _ = _; rw [unhide hlg, last_no (by rw [unhide HF]; exact inB_not.2 (.inl (by omega)))]
                have hd : decide (0 ≤ bad) = false := by simpa using hb0
                clear hlg HF
                go_wp2
                go_roundw
                case rel => exact ⟨J + 1, K, by omega, by omega, by go_num, rfl, H, hbL⟩
                case measure => simp [intOf] <;> omega
          · obtain rfl : J = n := by omega
            have hg := unhide hgo
            have own2 := hown.next hbL
            replace hbL := bnext hb hbL
            have hs2 := hbL.size
            by_cases hz : lastGood (fitJ rs width most a) J = 0
            · have H : Hid (X = none) := by
                show _ = _
                exact firstGo_none (f := f) hg.1 (by rw [unhide HLEN]; exact hg.2) (by rw [unhide HLEN]; exact hlt) (by rw [unhide HLEN]; exact hz)
              have hK : K < 0 := by rw [unhide hlg, hz]; decide
              clear hgo hlg hz hg
              rename World => w5
              go_wp2
              go_ret2
              rw [unhide HXB, unhide HX, unhide H]
              exact ⟨_, 0, rfl, own_base (OwnI.fresh _) hs2, bmk hbL _⟩
            · obtain ⟨Q, hQ⟩ : ∃ Q, lastGood (fitJ rs width most a) J = Q + 1 := ⟨lastGood (fitJ rs width most a) J - 1, by omega⟩
              obtain ⟨g, HG⟩ : ∃ g, Hid (X = (firstGo rs width most g (Q + 1)).map ((acc ++ [(Q : Int)]) ++ ·) ∧ J - (Q + 1) ≤ g) := by
                have := firstGo_some (f := f) hg.1 (by rw [unhide HLEN]; exact hg.2) (by rw [unhide HLEN]; exact hlt) (by rw [unhide HLEN]; exact hQ)
                rw [unhide HLEN] at this
                exact this
              have hgt2 := lastGood_gt (rs := rs) (width := width) (most := most) (a := a) (J := J) (by omega)
              have hle2 := lastGood_le (fitJ rs width most a) J
              rw [hQ] at hgt2 hle2
              obtain rfl : K = (Q : Int) := by rw [unhide hlg, hQ]; omega
              clear hgo hlg hz hg hQ hown
              go_wp2_with (at_builtin; refine wpList_push_N (Q : Int) rfl rfl own2 rfl rfl (by omega) (by omega) ?_; intro A3 c3 w3 hown3 hg3 ho3)
              go_roundw
              case rel => exact ⟨Q + 1, g, A3, c3, _, by omega, by go_num, by simp, by simp; omega, HG, hown3, b_own (bmk hbL _) ho3 (Nat.le_refl _) hg3⟩
              case measure => simp [intOf] <;> omega
      · obtain rfl : n = a := by omega
        have H : Hid (X = some acc) := firstGo_end (unhide hgo).1 (by rw [unhide HLEN]; exact Nat.le_refl _)
        clear hgo
        go_wp2
        go_ret2
        rw [unhide HXB, unhide HX, unhide H]
        exact ⟨_, _, rfl, hown, hb⟩
end Go.Proofs.Ytadcbigioldejaa
