/- The walk of the law FnBestLines: for every code it returns true and changes nothing that was there. No condition. -/
import Derived.Test.YtlklkloadefihaaMc
import Derived.Test.YtlklkloadefihaaMbt
import Derived.Test.YtlklkloadefihaaBestC
import Derived.Test.YtlklkloadefihaaMplb
import Derived.Test.YtlklkloadefihaaFullP
import Derived.Test.YtlklkloadefihaaDrawW
import Derived.Test.YtlklkloadefihaaMa
namespace Go.Proofs.Ytlklkloadefihaa
open Go.RowKit
set_option linter.unusedVariables false

theorem best_bads {rs : List Item} {y z : Int} {b : List Int} (hq : bestBr rs y z = some b) : ∃ l, Hid (lineBads rs y b = l) ∧ Hid (∀ k bk, l[k]? = some bk → bk = (lineBad rs (((-1 : Int) :: b).getD k 0) (b.getD k 0) y).1 ∧ 0 ≤ bk ∧ bk ≤ z) ∧ l.length = b.length := by
  obtain ⟨_, _, _, _, ⟨n, hn⟩, _⟩ := bestBr_some_cost hq
  obtain ⟨l, h1, h2, h3⟩ := badsGo_of_cost b St.start n hn
  have e : badsGo rs y (-1) b = some l := h1
  refine ⟨l, ?_, h3, h2⟩
  show lineBads rs y b = l
  rw [lineBads, e]; rfl
set_option maxRecDepth 100000 in
set_option maxHeartbeats 6400000 in
theorem w_FnBestLines (A : Option Addr) (n c : Nat) (xs : List Int) (w : World) (h : CodeAt w A n c xs) :
    Calls Try.prog 12 #[.slice A n c] w fun e w' => e = .returned (.bool true) ∧ Below w.heap.size w w' := by
  have hcm := h.2
  unfold maxLen at hcm
  by_cases hbig : 1048576 < n
  · go_enter Try.func12, Try.ntmps12
    go_wp2
    go_ret
    exact ⟨rfl, Below.refl _ _⟩
  · go_enter Try.func12, Try.ntmps12
    go_wp2_with fail
    refine (c_drawBestBreaks A n c xs _ h).mono ?_
    rintro e w1 ⟨A1, c1, rs, y, z, rfl, hl1, R, B⟩
    have hbdR := R.at_.bd
    clear hbig hcm h
    cases hq : bestBr rs y z with
    | none =>
      have hP : bestBreaks rs y z = [] := by rw [bestBreaks, hq] <;> rfl
      have HQ := hide hq
      have HL : Hid (lineBads rs y [] = []) := rfl
      clear hq
      go_wp2_with fail
      refine (c_bestBreaks A1 _ c1 rs y z _ R.at_).mono ?_
      rintro e w2 ⟨A2, c2, he, X, hb⟩
      rw [hP, unhide HQ] at he
      rw [hP] at X
      subst he
      replace B := bnext B hb
      replace R := R.next hb
      clear hb
      go_wp2_with fail
      refine (c_bestBreaks' A1 _ c1 rs y z _ R.at_).mono ?_
      rintro e w3 ⟨A3, c3, he, Y, hb⟩
      rw [hP, unhide HQ] at he
      rw [hP] at Y
      subst he
      replace B := bnext B hb
      replace R := R.next hb
      replace X := X.next hb
      clear hb hP HQ
      go_wp2_with fail
      refine (c_sameInts_same _ _ _ _ _ _ [] _ X.at_ Y.at_).mono ?_
      rintro e w4 ⟨rfl, hb⟩
      replace B := bnext B hb
      replace R := R.next hb
      replace X := X.next hb
      clear hb Y
      go_wp2_with fail
      refine (c_lineBadnesses A1 _ c1 rs y _ _ _ [] _ R.at_ X.at_ (by simp)).mono ?_
      rintro e w5 ⟨A5, c5, he, L, hb⟩
      rw [unhide HL] at he
      subst he
      replace B := bnext B hb
      clear hb HL L R X
      go_wp2
      go_loopw [11, 12] (fun a i wr => i = .int .i64 0 ∧ a = .int .i64 (-1) ∧ Below w.heap.size w wr) (fun _ _ _ => 0)
      case atStart => exact ⟨rfl, rfl, B⟩
      case round =>
        clear B
        obtain ⟨rfl, rfl, B⟩ := hrel
        go_wp2_with fail
        refine (c_alive _).mono ?_
        rintro e w9 ⟨rfl, hb⟩
        go_wp2
        go_ret
        exact ⟨rfl, bnext B hb⟩
    | some b =>
      have hP : bestBreaks rs y z = b := by rw [bestBreaks, hq] <;> rfl
      have hS := bestBr_some_cost hq
      have hbl : b.length ≤ rs.length := hS.2.2.2.1
      obtain ⟨l, HL, HF, hl0⟩ := best_bads hq
      have hl2 : l.length ≤ b.length ∧ b.length ≤ l.length := ⟨Nat.le_of_eq hl0, Nat.le_of_eq hl0.symm⟩
      have hle : ((l.length : Int) == (b.length : Int)) = true := by simp [hl0]
      have HQ := hide hq
      clear hq hS hl0
      go_wp2_with fail
      refine (c_bestBreaks A1 _ c1 rs y z _ R.at_).mono ?_
      rintro e w2 ⟨A2, c2, he, X, hb⟩
      rw [hP, unhide HQ] at he
      rw [hP] at X
      subst he
      replace B := bnext B hb
      replace R := R.next hb
      clear hb
      go_wp2_with fail
      refine (c_bestBreaks' A1 _ c1 rs y z _ R.at_).mono ?_
      rintro e w3 ⟨A3, c3, he, Y, hb⟩
      rw [hP, unhide HQ] at he
      rw [hP] at Y
      subst he
      replace B := bnext B hb
      replace R := R.next hb
      replace X := X.next hb
      clear hb hP HQ
      go_wp2_with fail
      refine (c_sameInts_same _ _ _ _ _ _ b _ X.at_ Y.at_).mono ?_
      rintro e w4 ⟨rfl, hb⟩
      replace B := bnext B hb
      replace R := R.next hb
      replace X := X.next hb
      clear hb Y
      go_wp2_with fail
      refine (c_lineBadnesses A1 _ c1 rs y _ _ _ b _ R.at_ X.at_ (by omega)).mono ?_
      rintro e w5 ⟨A5, c5, he, L, hb⟩
      rw [unhide HL] at he L
      subst he
      replace B := bnext B hb
      replace R := R.next hb
      replace X := X.next hb
      have RA := R.at_
      have XA := X.at_
      have LA := L.at_
      clear hb HL R X L
      go_wp2
      go_loopw [11, 12] (fun av i wr => ∃ (k : Nat) (a : Int), k ≤ b.length ∧ i = .int .i64 k ∧ av = .int .i64 a ∧ Hid (a = ((-1 : Int) :: b).getD k 0) ∧ ItemsAt wr A1 rs.length c1 rs ∧ IntsAt wr A2 b.length c2 b ∧ IntsAt wr A5 l.length c5 l ∧ Below w.heap.size w wr) (fun _ i _ => b.length - (intOf i).toNat)
      case atStart => exact ⟨0, -1, Nat.zero_le _, rfl, rfl, rfl, RA, XA, LA, B⟩
      case round =>
        clear RA XA LA B
        obtain ⟨k, a, hk, rfl, rfl, HA, RA, XA, LA, B⟩ := hrel
        by_cases hlt : k < b.length
        · obtain ⟨bx, ox, xk, rfl, hbx, hxx, hxc⟩ := XA.at_ hlt
          obtain ⟨b5, o5, bk, rfl, hb5, hbb, hbc⟩ := LA.at_ (k := k) (by omega)
          have hf := unhide HF k bk hbb
          have hxk : b.getD k 0 = xk := by simp [hxx]
          have HN : Hid (xk = ((-1 : Int) :: b).getD (k + 1) 0) := by show _ = _; rw [List.getD_cons_succ]; exact hxk.symm
          rw [← unhide HA, hxk] at hf
          have hfull : bk < 10000 → isFull rs a xk y = true := fun h => isFull_bad (by rw [← hf.1]; exact hf.2.1) (by rw [← hf.1]; exact h)
          have hbk : bk ≤ z := hf.2.2
          have g1 : decide ((l.length : Int) ≤ (k : Int)) = false := decide_eq_false (by omega)
          have g2 : decide (z < bk) = false := decide_eq_false (by omega)
          clear hxx hbb hf hxk HA
          by_cases h10 : bk < 10000
          · have HFU := hide (hfull h10)
            have g3 : decide (bk < 10000) = true := decide_eq_true h10
            clear hfull
            go_wp2_with fail
            refine (c_lineIsFull A1 _ c1 rs a xk y _ RA).mono ?_
            rintro e w6 ⟨he, hb⟩
            rw [unhide HFU] at he
            subst he
            have hxc2 := (hb.cell (p := ⟨bx, ox + k, none⟩) hbx).trans hxc
            replace B := bnext B hb
            replace RA := RA.next hb
            replace XA := XA.next hb
            replace LA := LA.next hb
            clear hb HFU hxc hbc
            go_wp2
            go_roundw
            case rel => exact ⟨k + 1, xk, by omega, by go_num, rfl, HN, RA, XA, LA, B⟩
            case measure => simp [intOf]; omega
          · have g3 : decide (bk < 10000) = false := decide_eq_false h10
            clear hfull
            go_wp2
            go_roundw
            case rel => exact ⟨k + 1, xk, by omega, by go_num, rfl, HN, RA, XA, LA, B⟩
            case measure => simp [intOf]; omega
        · clear HF HA
          go_wp2_with fail
          refine (c_alive _).mono ?_
          rintro e w9 ⟨rfl, hb⟩
          go_wp2
          go_ret
          exact ⟨rfl, bnext B hb⟩
end Go.Proofs.Ytlklkloadefihaa
