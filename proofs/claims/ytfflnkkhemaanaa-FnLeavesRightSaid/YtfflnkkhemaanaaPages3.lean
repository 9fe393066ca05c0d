/- Pages: FirstPages, the program's and the reference's. No condition. -/
import Derived.Test.YtfflnkkhemaanaaPages2
import Derived.Test.YtfflnkkhemaanaaPush
namespace Go.Proofs.Ytfflnkkhemaanaa
open Go.RowKit
set_option linter.unusedVariables false

theorem first_end {rs : List Row} {h : Int} {f a : Nat} (ha : rs.length ≤ a) : firstGo rs h f a = some [] := by
  cases f with
  | zero => rw [firstGo, if_neg (by omega)]
  | succ f => rw [firstGo, if_neg (by omega)]
theorem first_none {rs : List Row} {h : Int} {f a : Nat} (ha : a < rs.length) (hs : splitN (rs.drop a) h = 0) : firstGo rs h f a = none := by
  cases f with
  | zero => rw [firstGo, if_pos ha]
  | succ f => rw [firstGo, if_pos ha, if_pos hs]
theorem first_step {rs : List Row} {h : Int} {f a k : Nat} (ha : a < rs.length) (hk : splitN (rs.drop a) h = k) (hs : k ≠ 0) : firstGo rs h (f + 1) a = (firstGo rs h f (a + k)).map (((a + k : Nat) : Int) :: ·) := by
  subst hk
  rw [firstGo, if_pos ha, if_neg hs]
theorem okAt_page {rs : List Row} {h : Int} {a m : Nat} : okAt (rs.drop a) h m = pageOk rs h a (a + m) := by rw [pageOk, Nat.add_sub_cancel_left]
theorem down_ok {rs : List Row} {h : Int} {m : Nat} (hm : 0 < m) (hok : okAt rs h m = true) : splitDown rs h m = m := by
  obtain ⟨j, rfl⟩ : ∃ j, m = j + 1 := ⟨m - 1, by omega⟩
  rw [splitDown, if_pos hok]
theorem down_no {rs : List Row} {h : Int} {m : Nat} (hm : 0 < m) (hok : okAt rs h m = false) : splitDown rs h m = splitDown rs h (m - 1) := by
  obtain ⟨j, rfl⟩ : ∃ j, m = j + 1 := ⟨m - 1, by omega⟩
  rw [splitDown, if_neg (by simp [hok])]; rfl

set_option maxHeartbeats 2000000 in
theorem c_firstPages (A : Option Addr) (n c : Nat) (rs : List Row) (h : Int) (w : World) (hR : RowsAt w A n c rs) :
    Calls Try.prog 24 #[.slice A n c, .int .i64 h] w fun e w' => ∃ A' c', e = .returned (.tuple #[.slice A' (firstPages rs h).length c', .bool (firstOf rs h).isSome]) ∧ OwnI w' w.heap.size A' c' (firstPages rs h) ∧ Below w.heap.size w w' := by
  have hlen := hR.len
  have hbd := hR.bd
  cases h1 : argsOk rs h
  · have H : Hid (firstPages rs h = [] ∧ (firstOf rs h).isSome = false) := by show _ ∧ _; simp [firstPages, firstOf, h1]
    go_enter Try.func24, Try.ntmps24
    go_wp2_with fail
    refine (c_pageArguments h1 _ hR).mono ?_
    rintro e w1 ⟨rfl, hb1⟩
    go_wp2
    go_ret2
    rw [(unhide H).1, (unhide H).2]
    exact ⟨none, 0, rfl, OwnI.nil_ _ _, hb1⟩
  · obtain ⟨hva, hv, hl, hh1, hh2⟩ := args_parts h1
    have hF : firstOf rs h = firstGo rs h n 0 := by simp [firstOf, h1, hlen]
    have HF := hide hF
    have HLEN := hide hlen
    have HV := hide hv
    have HL := hide hl
    have hn30 : n ≤ 30 := by omega
    clear hva hv hl hlen hF
    go_enter Try.func24, Try.ntmps24
    go_wp2_with fail
    refine (c_pageArguments h1 _ hR).mono ?_
    rintro e w1 ⟨rfl, hb1⟩
    clear h1
    go_wp2
    go_loopw [6, 7] (fun o a wr => ∃ (aN f : Nat) (AO : Option Addr) (cO : Nat) (acc : List Int), aN ≤ n ∧ a = .int .i64 aN ∧ n ≤ aN + f ∧ acc.length + f ≤ n ∧ o = .slice AO acc.length cO ∧ OwnI wr w.heap.size AO cO acc ∧ Hid (firstOf rs h = (firstGo rs h f aN).map (acc ++ ·)) ∧ Below w.heap.size w wr) (fun _ a _ => n - (intOf a).toNat)
    case atStart => exact ⟨0, n, none, 0, [], Nat.zero_le _, rfl, by omega, by simp, rfl, OwnI.nil_ _ _, by show _ = _; rw [unhide HF]; simp, hb1⟩
    case round =>
      clear hb1
      obtain ⟨aN, f, AO, cO, acc, ha, rfl, hf, hac, rfl, O, hgo, hb⟩ := hrel
      by_cases hlt : aN < n
      · have hla : (rs.drop aN).length = n - aN := by rw [List.length_drop, unhide HLEN]
        have hsp : splitN (rs.drop aN) h = splitDown (rs.drop aN) h (n - aN) := by rw [splitN, hla]
        have HSP := hide hsp
        clear hla hsp
        go_wp2
        go_loopw [8] (fun t wr => ∃ (m : Nat), aN + m ≤ n ∧ t = .int .i64 (aN + m : Nat) ∧ Hid (splitN (rs.drop aN) h = splitDown (rs.drop aN) h m) ∧ OwnI wr w.heap.size AO cO acc ∧ Below w.heap.size w wr) (fun t _ => (intOf t).toNat)
        case atStart => exact ⟨n - aN, by omega, by rw [show aN + (n - aN) = n by omega], HSP, O, hb⟩
        case round =>
          clear O hb
          obtain ⟨m, hm, rfl, hs, O, hb⟩ := hrel
          by_cases hm0 : 0 < m
          · have hgt : aN < aN + m := by omega
            obtain ⟨p, HP⟩ : ∃ p, Hid (p = pCost rs h aN (aN + m)) := ⟨_, rfl⟩
            have hpn := pCost_nonneg (rs := rs) (h := h) (a := aN) (z := aN + m)
            rw [← unhide HP] at hpn
            cases hok : pageOk rs h aN (aN + m)
            · have hp0 : p < 0 := by
                rcases Int.lt_or_le p 0 with h | h
                · exact h
                · rw [hpn.1 h] at hok; cases hok
              have HS : Hid (splitN (rs.drop aN) h = splitDown (rs.drop aN) h (m - 1)) := by
                show _ = _; rw [unhide hs, down_no hm0 (by rw [okAt_page]; exact hok)]
              clear hpn hok hs
              go_wp2_with fail
              refine (c_pageCost A n c rs h aN (aN + m) _ (hR.next hb) (unhide HV) hn30 ⟨hh1, hh2⟩ hgt hm).mono ?_
              rintro e w3 ⟨he, hb3⟩
              rw [← unhide HP] at he
              subst he
              replace O := O.next hb3
              replace hb := bnext hb hb3
              clear hb3
              go_wp2
              go_roundw
              case rel => exact ⟨m - 1, by omega, by congr 1 <;> omega, HS, O, hb⟩
              case measure => simp [intOf]; omega
            · have hp0 : 0 ≤ p := hpn.2 hok
              have hsm : splitN (rs.drop aN) h = m := by rw [unhide hs, down_ok hm0 (by rw [okAt_page]; exact hok)]
              obtain ⟨f', rfl⟩ : ∃ f', f = f' + 1 := ⟨f - 1, by omega⟩
              have hgo2 : firstOf rs h = (firstGo rs h f' (aN + m)).map (acc ++ [((aN + m : Nat) : Int)] ++ ·) := by
                rw [unhide hgo, first_step (by rw [unhide HLEN]; exact hlt) hsm (by omega), Option.map_map]
                congr 1; funext t; simp
              have HG := hide hgo2
              have hl8 : (acc ++ [((aN + m : Nat) : Int)]).length = acc.length + 1 := by simp
              have HL8 := hide hl8
              have hne : ((aN + m : Nat) : Int) ≠ (aN : Int) := by omega
              have hne2 : (((aN + m : Nat) : Int) == (aN : Int)) = false := by simpa using hne
              clear hpn hok hs hsm hgo hgo2 hl8 hne
              go_wp2_with fail
              refine (c_pageCost A n c rs h aN (aN + m) _ (hR.next hb) (unhide HV) hn30 ⟨hh1, hh2⟩ hgt hm).mono ?_
              rintro e w3 ⟨he, hb3⟩
              rw [← unhide HP] at he
              subst he
              replace O := O.next hb3
              replace hb := bnext hb hb3
              have hbs := hb.size
              clear hb3
              go_wp2_with (at_builtin; refine wpList_push_I (w0 := w) ((aN + m : Nat) : Int) rfl rfl O rfl rfl (by omega) hbs ?_; intro A6 c6 w6 O6 hg6 hpre)
              have B6 : Below w.heap.size w w6 := b_own (bmk hb _) hpre (Nat.le_refl _) hg6
              clear hg6 hpre O hb hbs
              go_wp2
              go_roundw
              case rel => exact ⟨aN + m, f', A6, c6, acc ++ [((aN + m : Nat) : Int)], hm, rfl, by omega, by rw [unhide HL8]; omega, by simp, O6, HG, B6⟩
              case measure => simp [intOf]; omega
          · obtain rfl : m = 0 := by omega
            have hs0 : splitN (rs.drop aN) h = 0 := unhide hs
            have HN : Hid (firstPages rs h = [] ∧ (firstOf rs h).isSome = false) := by
              have e : firstOf rs h = none := by rw [unhide hgo, first_none (by rw [unhide HLEN]; exact hlt) hs0]; rfl
              show _ ∧ _; rw [firstPages, e]; exact ⟨rfl, rfl⟩
            clear hs0 hs hgo
            have hq : ((aN + 0 : Nat) : Int) = (aN : Int) := by omega
            go_wp2
            go_ret2
            rw [(unhide HN).1, (unhide HN).2]
            exact ⟨none, 0, rfl, OwnI.nil_ _ _, hb⟩
      · have HN : Hid (firstPages rs h = acc ∧ (firstOf rs h).isSome = true) := by
          have e : firstOf rs h = some acc := by rw [unhide hgo, first_end (by rw [unhide HLEN]; omega)]; simp
          show _ ∧ _; rw [firstPages, e]; exact ⟨rfl, rfl⟩
        clear hgo
        go_wp2
        go_ret2
        rw [(unhide HN).1, (unhide HN).2]
        exact ⟨AO, cO, rfl, O, hb⟩

end Go.Proofs.Ytfflnkkhemaanaa
