/- The walk of the law FnPagesCost: for every code it returns true and changes nothing that was there. No condition. -/
import Derived.Test.YtpbccblenohhoaaPagesR
import Derived.Test.YtpbccblenohhoaaDrawCost
import Derived.Test.YtpbccblenohhoaaAlive
namespace Go.Proofs.Ytpbccblenohhoaa
open Go.RowKit
set_option linter.unusedVariables false

theorem pagesCost_cases (rs : List Row) (h : Int) (es : List Int) : pagesCost rs h es = -1 ∨ ∃ s, argsOk rs h = true ∧ costGo rs h 0 es = some s ∧ pagesCost rs h es = s := by
  cases ha : argsOk rs h
  · exact .inl (by rw [pagesCost, ha]; rfl)
  · cases hc : costGo rs h 0 es with
    | none => exact .inl (by rw [pagesCost, ha, hc]; rfl)
    | some s => exact .inr ⟨s, rfl, rfl, by rw [pagesCost, if_pos ha, hc]; rfl⟩
theorem cost_end {rs : List Row} {h : Int} {a : Nat} {s : Int} (e : costGo rs h a [] = some s) : a = rs.length ∧ s = 0 := by
  rw [costGo] at e
  split at e
  · rename_i ha; exact ⟨ha, (Option.some.inj e).symm⟩
  · cases e
theorem cost_short {rs : List Row} {h : Int} {es : List Int} {s : Int} (e : costGo rs h 0 es = some s) (hl : es.length ≤ 1) : s = 0 := by
  match es, e, hl with
  | [], e, _ => exact (cost_end e).2
  | [x], e, _ =>
    obtain ⟨⟨z, _⟩, ⟨_, v⟩, _, hz1, hz2, hok, hgv, htv⟩ := cost_step e
    dsimp only at hz1 hz2 hok hgv htv
    obtain ⟨e1, e2⟩ := cost_end hgv
    have hp0 : pCost rs h 0 z = 0 := by rw [pCost, if_pos hok, if_pos e1]
    rw [htv, hp0, e2]; rfl
/-- The height of a part of rows, told by the program. -/
theorem c_segHi {rs : List Row} (hv : rs.all rowValid = true) (hl : rs.length ≤ 30) {a z : Nat} {s : Int} (hs : Hid (s = seg rs a z)) {A : Option Addr} {k c : Nat} (w : World) (hR : RowsAt w A k c ((rs.drop a).take (z - a))) :
    Calls Try.prog 20 #[.slice A k c] w fun e w' => e = .returned (.int .i64 s) ∧ Below w.heap.size w w' := by
  have h1 : heightOf ((rs.drop a).take (z - a)) = s := by rw [heightOf, if_pos (sub_valid hv hl a (z - a)), unhide hs]; rfl
  rw [← h1]; exact c_heightOf A k c _ w hR
set_option maxHeartbeats 3200000 in
theorem w_FnPagesCost (A : Option Addr) (n c : Nat) (xs : List Int) (w : World) (h : CodeAt w A n c xs) :
    Calls Try.prog 4 #[.slice A n c] w fun e w' => e = .returned (.bool true) ∧ Below w.heap.size w w' := by
  have hcm := h.2
  unfold maxLen at hcm
  by_cases hbig : 1048576 < n
  · go_enter Try.func4, Try.ntmps4
    go_wp2
    go_ret
    exact ⟨rfl, Below.refl _ _⟩
  · go_enter Try.func4, Try.ntmps4
    go_wp2_with fail
    refine (c_drawPagesCost A n c xs _ h).mono ?_
    rintro e w1 ⟨A1, c1, rs, y, A2, c2, es, rfl, hl1, ⟨hy0, hy1⟩, hl2, R, I, B⟩
    have hbdR := R.at_.bd
    have hbdI := I.at_.bd
    clear hbig hcm h
    obtain ⟨s, HS⟩ : ∃ s, Hid (s = pagesCost rs y es) := ⟨_, rfl⟩
    go_wp2_with fail
    refine (c_pagesCost A1 _ c1 rs y A2 _ c2 es _ R.at_ I.at_).mono ?_
    rintro e w2 ⟨he, hb⟩
    rw [← unhide HS] at he
    subst he
    replace B := bnext B hb
    replace R := R.next hb
    replace I := I.next hb
    clear hb
    go_wp2_with fail
    refine (c_pagesCost' A1 _ c1 rs y A2 _ c2 es _ R.at_ I.at_).mono ?_
    rintro e w3 ⟨he, hb⟩
    rw [← unhide HS] at he
    subst he
    replace B := bnext B hb
    replace R := R.next hb
    replace I := I.next hb
    clear hb
    rcases pagesCost_cases rs y es with hp | ⟨s', ha, hg, hp⟩
    · have hs := unhide HS
      rw [hp] at hs
      clear HS hp
      subst hs
      go_wp2_with fail
      refine (c_alive _).mono ?_
      rintro e w4 ⟨rfl, hb⟩
      go_wp2
      go_ret
      exact ⟨rfl, bnext B hb⟩
    · have hs := unhide HS
      rw [hp] at hs
      clear HS hp
      subst hs
      obtain ⟨hva, hv, hl, hh1, hh2⟩ := args_parts ha
      have hs0 : 0 ≤ s := by
        have := best_le es 0 s hg; omega
      have hshort : 1 < es.length ∨ s = 0 := by
        rcases Nat.lt_or_ge 1 es.length with h1 | h1
        · exact .inl h1
        · exact .inr (cost_short hg h1)
      have HV := hide hv
      have HL := hide hl
      have HG : Hid (costGo rs y 0 (es.drop 0) = some s) := by show _ = _; rw [List.drop_zero]; exact hg
      clear ha hg hva hv hl
      go_wp2
      go_loopw [7, 8] (fun a i wr => ∃ (k aN : Nat) (t : Int), k ≤ es.length ∧ i = .int .i64 k ∧ aN ≤ rs.length ∧ a = .int .i64 aN ∧ Hid (costGo rs y aN (es.drop k) = some t) ∧ OwnR wr w.heap.size A1 c1 rs ∧ OwnI wr w.heap.size A2 c2 es ∧ Below w.heap.size w wr) (fun _ i _ => es.length - (intOf i).toNat)
      case atStart => exact ⟨0, 0, s, Nat.zero_le _, by go_num, Nat.zero_le _, by go_num, HG, R, I, B⟩
      case round =>
        clear R I B HG
        obtain ⟨k, aN, t, hk, rfl, ha, rfl, hgo, R, I, B⟩ := hrel
        by_cases hlt : k < es.length
        · obtain ⟨b, off, x, rfl, hbl, hx, hc⟩ := I.at_.at_ (k := k) hlt
          have hgo2 := unhide hgo
          rw [drop_get hx] at hgo2
          obtain ⟨⟨z, _⟩, ⟨_, v⟩, rfl, hz1, hz2, hok, hgv, htv⟩ := cost_step hgo2
          dsimp only at hz1 hz2 hok hgv htv hc hx
          have hsb := seg_bd (unhide HV) (unhide HL) aN z
          rw [pageOk_eq rs y hz1 hz2] at hok
          simp only [Bool.and_eq_true, decide_eq_true_eq] at hok
          have hsy := hok.1
          obtain ⟨q, HQ⟩ : ∃ q, Hid (q = seg rs aN z) := ⟨_, rfl⟩
          rw [← unhide HQ] at hsy hsb
          obtain ⟨hsb1, hsb2⟩ := hsb
          have HGV := hide hgv
          have HX := hide hx
          clear hgo2 hok hgv htv hx hgo
          obtain ⟨A5, hR1, hsl0⟩ := rows_mid R.at_ (Nat.le_of_lt hz1) hz2
          have hsl := fun wx => hsl0 wx
          clear hsl0
          have hq1 : decide (y < q) = false := by simp; omega
          go_wp2_with fail
          refine (c_segHi (unhide HV) (unhide HL) HQ _ hR1).mono ?_
          rintro e w4 ⟨rfl, hb4⟩
          have B5 := bnext B hb4
          have R5 := R.next hb4
          have I5 := I.next hb4
          clear hc hR1 hsl hb4 B R I
          obtain ⟨b', off', x', e', hbl', hx', hc⟩ := I5.at_.at_ (k := k) hlt
          obtain ⟨rfl, rfl, _⟩ := (by simpa using e' : b = b' ∧ off = off')
          rw [unhide HX] at hx'
          obtain rfl := Option.some.inj hx'
          clear hx' e'
          go_wp2
          go_roundw
          case rel => exact ⟨k + 1, z, v, by omega, by go_num, by omega, rfl, HGV, R5, I5, B5⟩
          case measure => simp [intOf]; omega
        · have hend : aN = rs.length := by
            have hgo2 := unhide hgo
            rw [drop_end (l := es) (k := k) (by omega)] at hgo2
            exact (cost_end hgo2).1
          subst hend
          have hz : ((rs.length : Int) == (rs.length : Int)) = true := by simp
          rcases hshort with h1 | h1
          · have h1' : decide (1 < (es.length : Int)) = true := by simp; omega
            go_wp2
            go_ret
            exact ⟨rfl, B⟩
          · subst h1
            go_wp2
            all_goals
              go_ret
              exact ⟨rfl, B⟩
end Go.Proofs.Ytpbccblenohhoaa
