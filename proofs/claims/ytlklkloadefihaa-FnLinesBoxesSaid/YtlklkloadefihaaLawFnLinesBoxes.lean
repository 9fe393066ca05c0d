/- The walk of the law FnLinesBoxes: for every code it returns true and changes nothing that was there. No condition. -/
import Derived.Test.YtlklkloadefihaaMc
import Derived.Test.YtlklkloadefihaaMbt
import Derived.Test.YtlklkloadefihaaBestC
import Derived.Test.YtlklkloadefihaaBoxes
import Derived.Test.YtlklkloadefihaaDrawW
import Derived.Test.YtlklkloadefihaaMa
namespace Go.Proofs.Ytlklkloadefihaa
open Go.RowKit
set_option linter.unusedVariables false

theorem last_getD {b : List Int} {y : Int} (h : b.getLast? = some y) : ((-1 : Int) :: b).getD b.length 0 = y := by
  cases b with
  | nil => cases h
  | cons a t =>
    rw [List.getLast?_eq_getElem?] at h
    rw [List.length_cons, List.getD_cons_succ]
    simp at h
    simp [h]
theorem best_bads {rs : List Item} {y z : Int} {b : List Int} (hq : bestBr rs y z = some b) : ∃ l, Hid (lineBads rs y b = l) ∧ Hid (∀ k bk, l[k]? = some bk → bk = (lineBad rs (((-1 : Int) :: b).getD k 0) (b.getD k 0) y).1 ∧ 0 ≤ bk ∧ bk ≤ z) ∧ l.length = b.length := by
  obtain ⟨_, _, _, _, ⟨n, hn⟩, _⟩ := bestBr_some_cost hq
  obtain ⟨l, h1, h2, h3⟩ := badsGo_of_cost b St.start n hn
  have e : badsGo rs y (-1) b = some l := h1
  refine ⟨l, ?_, h3, h2⟩
  show lineBads rs y b = l
  rw [lineBads, e]; rfl
set_option maxRecDepth 100000 in
set_option maxHeartbeats 6400000 in
theorem w_FnLinesBoxes (A : Option Addr) (n c : Nat) (xs : List Int) (w : World) (h : CodeAt w A n c xs) :
    Calls Try.prog 11 #[.slice A n c] w fun e w' => e = .returned (.bool true) ∧ Below w.heap.size w w' := by
  have hcm := h.2
  unfold maxLen at hcm
  by_cases hbig : 1048576 < n
  · go_enter Try.func11, Try.ntmps11
    go_wp2
    go_ret
    exact ⟨rfl, Below.refl _ _⟩
  · go_enter Try.func11, Try.ntmps11
    go_wp2_with fail
    refine (c_drawBestBreaks A n c xs _ h).mono ?_
    rintro e w1 ⟨A1, c1, rs, y, z, rfl, hl1, R, B⟩
    have hbdR := R.at_.bd
    clear hbig hcm h
    cases hq : bestBr rs y z with
    | none =>
      have hP : bestBreaks rs y z = [] := by rw [bestBreaks, hq] <;> rfl
      have HQ := hide hq
      clear hq
      go_wp2_with fail
      refine (c_bestBreaks A1 _ c1 rs y z _ R.at_).mono ?_
      rintro e w2 ⟨A2, c2, he, X, hb⟩
      rw [hP, unhide HQ] at he
      rw [hP] at X
      subst he
      replace B := bnext B hb
      replace R := R.next hb
      clear hb
      go_wp2_with fail
      refine (c_bestBreaks' A1 _ c1 rs y z _ R.at_).mono ?_
      rintro e w3 ⟨A3, c3, he, Y, hb⟩
      rw [hP, unhide HQ] at he
      rw [hP] at Y
      subst he
      replace B := bnext B hb
      replace R := R.next hb
      replace X := X.next hb
      clear hb hP HQ
      go_wp2_with fail
      refine (c_sameInts_same _ _ _ _ _ _ [] _ X.at_ Y.at_).mono ?_
      rintro e w4 ⟨rfl, hb⟩
      replace B := bnext B hb
      replace R := R.next hb
      replace X := X.next hb
      clear hb Y
      clear R X
      go_wp2_with fail
      refine (c_alive _).mono ?_
      rintro e w9 ⟨rfl, hb⟩
      go_wp2
      go_ret
      exact ⟨rfl, bnext B hb⟩
    | some b =>
      have hP : bestBreaks rs y z = b := by rw [bestBreaks, hq] <;> rfl
      have hS := bestBr_some_cost hq
      have hbl : b.length ≤ rs.length := hS.2.2.2.1
      have HLAST := hide hS.2.2.2.2.2.1
      have HVALID := hide (argsB_iff.1 hS.1).1
      obtain ⟨l, _, HF, hl0⟩ := best_bads hq
      have HOK : Hid (∀ k, k < b.length → okS rs (((-1 : Int) :: b).getD k 0) (b.getD k 0) y = true) := fun k hk => by
        have hb5 : l[k]? = some l[k] := List.getElem?_eq_getElem (by omega)
        have h6 := unhide HF k _ hb5
        have h7 := lineBad_fits (show 0 ≤ (lineBad rs (((-1 : Int) :: b).getD k 0) (b.getD k 0) y).1 by rw [← h6.1]; exact h6.2.1)
        obtain ⟨v1, v2, v3⟩ := fitsB_iff.1 h7
        have v4 : okL rs (((-1 : Int) :: b).getD k 0) (b.getD k 0) = true := okL_iff.2 ⟨v1, v2⟩
        unfold okS; rw [v4, inB_iff.2 v3]; rfl
      have HQ := hide hq
      clear hq hS hl0 HF
      go_wp2_with fail
      refine (c_bestBreaks A1 _ c1 rs y z _ R.at_).mono ?_
      rintro e w2 ⟨A2, c2, he, X, hb⟩
      rw [hP, unhide HQ] at he
      rw [hP] at X
      subst he
      replace B := bnext B hb
      replace R := R.next hb
      clear hb
      go_wp2_with fail
      refine (c_bestBreaks' A1 _ c1 rs y z _ R.at_).mono ?_
      rintro e w3 ⟨A3, c3, he, Y, hb⟩
      rw [hP, unhide HQ] at he
      rw [hP] at Y
      subst he
      replace B := bnext B hb
      replace R := R.next hb
      replace X := X.next hb
      clear hb hP HQ
      go_wp2_with fail
      refine (c_sameInts_same _ _ _ _ _ _ b _ X.at_ Y.at_).mono ?_
      rintro e w4 ⟨rfl, hb⟩
      replace B := bnext B hb
      replace R := R.next hb
      replace X := X.next hb
      clear hb Y
      have RA := R.at_
      have XA := X.at_
      clear R X
      have I0 : OwnI (w4.alloc (.cells #[] 3)) w4.heap.size (some ⟨w4.heap.size, 0, none⟩) 0 [] := World.ownsRow_made w4 #[] 0 (Nat.le_refl _) (Nat.zero_le _) rfl
      have B0 := bof w4 (.cells #[] 3)
      go_wp2
      go_loopw [10, 11, 12] (fun v av i wr => ∃ (k : Nat) (a : Int) (A' : Option Addr) (c' : Nat) (acc : List Int), k ≤ b.length ∧ i = .int .i64 k ∧ av = .int .i64 a ∧ v = .slice A' acc.length c' ∧ Hid (a = ((-1 : Int) :: b).getD k 0) ∧ Hid (acc = bxTo rs (a + 1).toNat) ∧ acc.length ≤ 100 * k ∧ OwnI wr w4.heap.size A' c' acc ∧ Below w4.heap.size w4 wr) (fun _ _ i _ => b.length - (intOf i).toNat)
      case atStart => exact ⟨0, -1, _, _, [], Nat.zero_le _, rfl, rfl, rfl, rfl, rfl, by simp, I0, B0⟩
      case round =>
        clear I0 B0
        obtain ⟨k, a, A', c', acc, hk, rfl, rfl, rfl, HA, HE, hal, I, BI⟩ := hrel
        obtain ⟨wL, rfl⟩ : ∃ wL : World, wL = wr := ⟨_, rfl⟩
        have RL := RA.next BI
        have XL := XA.next BI
        have hsL := BI.size
        by_cases hlt : k < b.length
        · obtain ⟨bx, ox, xk, rfl, hbx, hxx, hxc⟩ := XL.at_ hlt
          have hxk : b.getD k 0 = xk := by simp [hxx]
          have HN : Hid (xk = ((-1 : Int) :: b).getD (k + 1) 0) := by show _ = _; rw [List.getD_cons_succ]; exact hxk.symm
          have hok := unhide HOK k hlt
          rw [← unhide HA, hxk] at hok
          have hlb := line_boxes hok
          rw [← unhide HE] at hlb
          obtain ⟨ps, HP⟩ : ∃ ps, Hid (setPs rs a xk y = ps) := ⟨_, rfl⟩
          obtain ⟨x, HX⟩ : ∃ x, Hid (setX rs a xk y = x) := ⟨_, rfl⟩
          have hpl : ps.length ≤ rs.length := by rw [← unhide HP]; exact setPs_len rs a xk y
          have HMEM : Hid (∀ p ∈ ps, 0 ≤ p.at_ ∧ p.at_ < rs.length) := fun p hp => setPs_mem (by rw [unhide HP]; exact hp)
          rw [unhide HP] at hlb
          have HLB := hide hlb
          have HK := hide hok
          have HXX := hide hxx
          clear hxx hxk hok hlb HA HE
          go_wp2_with fail
          refine (c_setLine A1 _ c1 rs a xk y _ RL).mono ?_
          rintro e w5 ⟨A5, c5, he, P, hb⟩
          rw [unhide HP, unhide HX, unhide HK] at he
          rw [unhide HP] at P
          subst he
          have AP0 := own_apart I P (Nat.le_refl _)
          have I5 := I.next hb
          have BI5 := bnext BI hb
          have PA5 := P.at_
          have HAP : Hid (∀ g, (Value.slice A5 ps.length c5).ownBlock = some g → (Value.slice A' acc.length c').ownBlock ≠ some g ∧ g < w5.heap.size) := fun g hg => ⟨fun e => by
            rcases AP0 with h | h
            · rw [h] at e; cases e
            · exact h (e.trans hg.symm), (World.ownsRow.lt P g hg).2⟩
          clear hb AP0 P I BI RL XL HP HX HK hxc
          go_wp2
          go_loopw [10, 16] (fun v i wr => ∃ (j : Nat) (A' : Option Addr) (c' : Nat) (es : List Int), j ≤ ps.length ∧ i = .int .i64 j ∧ v = .slice A' es.length c' ∧ Hid (es = acc ++ (ps.take j).map fun p => (itAt rs p.at_.toNat).w) ∧ es.length ≤ acc.length + j ∧ OwnI wr w4.heap.size A' c' es ∧ PlacedAt wr A5 ps.length c5 ps ∧ Hid (∀ g, (Value.slice A5 ps.length c5).ownBlock = some g → (Value.slice A' es.length c').ownBlock ≠ some g ∧ g < wr.heap.size) ∧ Below w4.heap.size w4 wr) (fun _ i _ => ps.length - (intOf i).toNat)
          case atStart => exact ⟨0, A', c', acc, Nat.zero_le _, rfl, rfl, by simp [Hid], by omega, I5, PA5, HAP, BI5⟩
          case round =>
            clear I5 PA5 HAP BI5
            obtain ⟨j, A', c', es, hj, rfl, rfl, HE, hel, I, PA, HAP, BI⟩ := hrel
            obtain ⟨wI, rfl⟩ : ∃ wI : World, wI = wr := ⟨_, rfl⟩
            have hbs := BI.size
            by_cases hjl : j < ps.length
            · obtain ⟨bP, oP, p, rfl, hbP, hp, p0, p1⟩ := PA.at_ hjl
              have hm := unhide HMEM p (mem_of_get hp)
              obtain ⟨m, hpm⟩ := Int.eq_ofNat_of_zero_le hm.1
              rw [hpm] at hm p0
              have hml : m < rs.length := by omega
              obtain ⟨bR, oR, r, rfl, hbR, hr, d0, d1, d2, d3, d4, d5, d6⟩ := (RA.next BI).at_ hml
              have HN2 : Hid (es ++ [r.w] = acc ++ (ps.take (j + 1)).map fun p => (itAt rs p.at_.toNat).w) := by
                show _ = _
                rw [take_snoc' hp, List.map_append, unhide HE]
                simp [hpm, itAt_of hr]
              have g2 : decide ((rs.length : Int) ≤ (m : Int)) = false := decide_eq_false (by omega)
              have hmi : (m : Int) < (rs.length : Int) := by omega
              clear hp hr p1 hpm HE d0 d2 d3 d4 d5 d6
              go_wp2_with (at_builtin; refine wpList_push_L r.w rfl rfl I rfl rfl rfl (by omega) hbs ?_; intro A6 c6 w6 I6 hg6 hpre hnn)
              have PA6 : PlacedAt w6 (some ⟨bP, oP, none⟩) ps.length c5 ps := ⟨Rd.grown (PA.next (bof _ (.cells #[.int .i64 r.w] 3))).1 hg6 (fun _ q hq => (unhide HAP q.block (by injection hq with hq; rw [← hq]; rfl)).1), PA.2⟩
              have B6 : Below w4.heap.size w4 w6 := b_own (bmk BI _) hpre (Nat.le_refl _) hg6
              have HAP6 : Hid (∀ g, (Value.slice (some ⟨bP, oP, none⟩) ps.length c5).ownBlock = some g → (Value.slice A6 (es ++ [r.w]).length c6).ownBlock ≠ some g ∧ g < w6.heap.size) := fun g hg => by
                obtain ⟨h1, h2⟩ := unhide HAP g hg
                exact ⟨hnn g _ h2 h1, by have := hg6.size; simp at this; omega⟩
              clear HAP PA hg6 hpre hnn I BI
              go_wp2
              go_roundw
              case rel => exact ⟨j + 1, A6, c6, es ++ [r.w], by omega, by go_num, by simp, HN2, by simp; omega, I6, PA6, HAP6, B6⟩
              case measure => simp [intOf]; omega
            · obtain rfl : j = ps.length := by omega
              have HN2 : Hid (es = bxTo rs (xk + 1).toNat) := by
                show _ = _
                rw [unhide HLB, unhide HE, List.take_length]
              have XI := XA.next BI
              have hxc : wI.cell? ⟨bx, ox + k, none⟩ = some (.int .i64 xk) := by
                obtain ⟨b9, o9, x9, e9, hb9, h9, hxc⟩ := XI.at_ hlt
                injection e9 with e9
                injection e9 with e1 e2 e3
                rw [unhide HXX] at h9
                injection h9 with h9
                rw [e1, e2, h9]; exact hxc
              clear XI HXX
              go_wp2
              go_roundw
              case rel => exact ⟨k + 1, xk, A', c', es, by omega, by go_num, rfl, rfl, HN, HN2, by omega, I, BI⟩
              case measure => simp [intOf]; omega
        · obtain rfl : k = b.length := by omega
          have HEQ : Hid (acc = boxesOf rs) := by
            show _ = _
            rw [boxesOf, unhide HVALID, unhide HE, unhide HA, last_getD (unhide HLAST)]
            simp
          rw [unhide HEQ] at I
          rw [unhide HEQ]
          clear HEQ HE HA hal
          have RI := RA.next BI
          go_wp2_with fail
          refine (c_boxesOf A1 _ c1 rs _ RI).mono ?_
          rintro e w5 ⟨A5, c5, rfl, Y, hb⟩
          have I5 := I.next hb
          have B5 := bnext (bnext B BI) hb
          clear hb I BI RI RL XL
          go_wp2_with fail
          refine (c_sameInts_same _ _ _ _ _ _ (boxesOf rs) _ I5.at_ Y.at_).mono ?_
          rintro e w6 ⟨rfl, hb⟩
          go_wp2
          go_ret
          exact ⟨rfl, bnext B5 hb⟩
end Go.Proofs.Ytlklkloadefihaa
