/- The walk of the law FnLineBadness: for every code it returns true and changes nothing that was there. No condition. -/
import Derived.Test.YtlklkloadefihaaFullP
import Derived.Test.YtlklkloadefihaaDrawE
import Derived.Test.YtlklkloadefihaaMa
namespace Go.Proofs.Ytlklkloadefihaa
open Go.RowKit
set_option linter.unusedVariables false

/-- What the badness of a line says of its glue. -/
theorem badness_facts {rs : List Item} {a t y bad gw gst gsh god : Int} {st ok : Bool} (HB : Hid (lineBad rs a t y = (bad, st))) (HG : Hid (pGlOf rs a t = ⟨gw, gst, gsh, god⟩)) (HK : Hid (okL rs a t = ok)) :
    (bad = -1 ∧ st = false ∧ (ok = false ∨ y < 0 ∧ ok = true ∨ 1000 < y ∧ ok = true)) ∨
    (ok = true ∧ 0 ≤ y ∧ y ≤ 1000 ∧ bad ≤ 10000 ∧ ((gw = y ∧ bad = 0 ∧ st = true ∧ 0 ≤ gsh ∧ gsh ≤ 100000) ∨ (gw ≤ y ∧ 0 ≤ bad ∧ st = true ∧ (0 ≤ gsh ∧ gsh ≤ 100000 ∧ 0 ≤ gw) ∧ gw ≠ y) ∨ (y < gw ∧ 0 ≤ bad ∧ st = false ∧ (gw - y ≤ gsh ∧ gsh ≤ 100000 ∧ gw ≤ 100000)) ∨ (y < gw ∧ bad = -1 ∧ st = false ∧ (gsh < gw - y ∧ 0 ≤ gsh ∧ gw ≤ 100000)))) := by
  have hB := unhide HB
  have hG := unhide HG
  have hK := unhide HK
  cases hf : fitsB rs a t y
  · left
    rw [lineBad, hf] at hB
    simp only [Bool.false_eq_true, if_false, Prod.mk.injEq] at hB
    refine ⟨hB.1.symm, hB.2.symm, ?_⟩
    cases ok
    · exact .inl rfl
    · right
      have : ¬ (0 ≤ y ∧ y ≤ 1000) := fun h => by
        obtain ⟨hv, hl⟩ := okL_iff.1 hK
        rw [fitsB_iff.2 ⟨hv, hl, h⟩] at hf; cases hf
      by_cases h0 : y < 0
      · exact .inl ⟨h0, rfl⟩
      · exact .inr ⟨by omega, rfl⟩
  · right
    obtain ⟨hv, hl, hw⟩ := fitsB_iff.1 hf
    have hk : okL rs a t = true := okL_iff.2 ⟨hv, hl⟩
    have hbd := lineTot_bd hv hl
    have hbb := lineBad_bd rs a t y
    rw [hB] at hbb
    rw [pGlOf_ok hk] at hG
    rw [lineBad, hf] at hB
    rw [hG] at hB hbd
    simp only [if_true] at hB
    dsimp only at hbd
    refine ⟨by rw [← hK, hk], hw.1, hw.2, hbb.2, ?_⟩
    unfold badOf at hB
    dsimp only at hB
    split at hB
    · rename_i h1
      have e1 : 0 ≤ bad ∧ st = true ∧ (gw = y → bad = 0) := by
        split at hB
        · simp only [Prod.mk.injEq] at hB; exact ⟨by omega, hB.2.symm, fun _ => hB.1.symm⟩
        · simp only [Prod.mk.injEq] at hB
          have hb2 := badB_bd (need := y - gw) (room := gst) (by omega) hbd.2.1.1
          refine ⟨by omega, hB.2.symm, fun e => ?_⟩
          rw [← hB.1, badB, if_pos (by omega)]
      by_cases e : gw = y
      · exact .inl ⟨e, e1.2.2 e, e1.2.1, by omega, by omega⟩
      · exact .inr (.inl ⟨h1, e1.1, e1.2.1, ⟨by omega, by omega, by omega⟩, e⟩)
    · rename_i h1
      split at hB
      · rename_i h2
        simp only [Prod.mk.injEq] at hB
        have hb2 := badB_bd (need := gw - y) (room := gsh) (by omega) hbd.2.2.1.1
        exact .inr (.inr (.inl ⟨by omega, by omega, hB.2.symm, ⟨h2, by omega, by omega⟩⟩))
      · rename_i h2
        simp only [Prod.mk.injEq] at hB
        exact .inr (.inr (.inr ⟨by omega, hB.1.symm, hB.2.symm, ⟨by omega, by omega, by omega⟩⟩))
set_option maxRecDepth 100000 in
set_option maxHeartbeats 6400000 in
theorem w_FnLineBadness (A : Option Addr) (n c : Nat) (xs : List Int) (w : World) (h : CodeAt w A n c xs) :
    Calls Try.prog 3 #[.slice A n c] w fun e w' => e = .returned (.bool true) ∧ Below w.heap.size w w' := by
  have hcm := h.2
  unfold maxLen at hcm
  by_cases hbig : 1048576 < n
  · go_enter Try.func3, Try.ntmps3
    go_wp2
    go_ret
    exact ⟨rfl, Below.refl _ _⟩
  · go_enter Try.func3, Try.ntmps3
    go_wp2_with fail
    refine (c_drawLineBadness A n c xs _ h).mono ?_
    rintro e w1 ⟨A1, c1, rs, a, t, y, rfl, hl1, R, B⟩
    have hbdR := R.at_.bd
    have RA := R.at_
    clear hbig hcm h R
    obtain ⟨bad, st, HB⟩ : ∃ bad st, Hid (lineBad rs a t y = (bad, st)) := ⟨_, _, rfl⟩
    obtain ⟨gw, gst, gsh, god, HG⟩ : ∃ gw gst gsh god, Hid (pGlOf rs a t = ⟨gw, gst, gsh, god⟩) := ⟨_, _, _, _, rfl⟩
    obtain ⟨ok, HK⟩ : ∃ ok, Hid (okL rs a t = ok) := ⟨_, rfl⟩
    have HFACT := hide (badness_facts HB HG HK)
    go_wp2_with fail
    refine (c_lineBadness A1 _ c1 rs a t y _ RA).mono ?_
    rintro e w2 ⟨he, hb⟩
    rw [unhide HB] at he
    subst he
    replace B := bnext B hb
    replace RA := RA.next hb
    clear hb
    go_wp2_with fail
    refine (c_lineBadness' A1 _ c1 rs a t y _ RA).mono ?_
    rintro e w3 ⟨he, hb⟩
    rw [unhide HB] at he
    subst he
    replace B := bnext B hb
    replace RA := RA.next hb
    clear hb
    have gb : (bad != bad) = false := by simp
    have gs : (st != st) = false := by simp
    go_wp2_with fail
    refine (c_lineGlue A1 _ c1 rs a t _ RA).mono ?_
    rintro e w4 ⟨he, hb⟩
    rw [unhide HG, unhide HK] at he
    subst he
    replace B := bnext B hb
    clear hb RA HB HG HK gb gs
    have BK := Blk.new w4 29 #[.int .i64 gw, .int .i64 gst, .int .i64 gsh, .int .i64 god]
    have k0 := BK.cell 0
    have k1 := BK.cell 1
    have k2 := BK.cell 2
    have k3 := BK.cell 3
    clear BK
    rcases unhide HFACT with ⟨rfl, rfl, hno⟩ | ⟨rfl, hy0, hy1, hb1, hcase⟩
    · clear HFACT
      rcases hno with rfl | ⟨hy, rfl⟩ | ⟨hy, rfl⟩
      · go_wp2_with fail
        refine (c_alive _).mono ?_
        rintro e w9 ⟨rfl, hb⟩
        go_wp2
        go_ret
        exact ⟨rfl, bnext (bmk B _) hb⟩
      · have g1 : decide (y < 0) = true := decide_eq_true hy
        go_wp2_with fail
        refine (c_alive _).mono ?_
        rintro e w9 ⟨rfl, hb⟩
        go_wp2
        go_ret
        exact ⟨rfl, bnext (bmk B _) hb⟩
      · have g1 : decide (y < 0) = false := decide_eq_false (by omega)
        have g2 : decide (1000 < y) = true := decide_eq_true hy
        go_wp2_with fail
        refine (c_alive _).mono ?_
        rintro e w9 ⟨rfl, hb⟩
        go_wp2
        go_ret
        exact ⟨rfl, bnext (bmk B _) hb⟩
    · clear HFACT
      have g1 : decide (y < 0) = false := decide_eq_false (by omega)
      have g2 : decide (1000 < y) = false := decide_eq_false (by omega)
      have g7 : decide (bad ≤ 10000) = true := decide_eq_true hb1
      rcases hcase with ⟨rfl, rfl, rfl, hsh⟩ | ⟨hgw, hb0, rfl, hsh, hne⟩ | ⟨hgw, hb0, rfl, hsh⟩ | ⟨hgw, rfl, rfl, hsh⟩
      · have g3 : decide (gw - gsh ≤ gw) = true := decide_eq_true (by omega)
        have g6 : (gw != gw) = false := by simp
        go_wp2
        go_ret
        exact ⟨rfl, bmk B _⟩
      · have g3 : decide (gw - gsh ≤ y) = true := decide_eq_true (by omega)
        have g4 : decide (gw ≤ y) = true := decide_eq_true hgw
        have g5 : decide (0 ≤ bad) = true := decide_eq_true hb0
        have g6 : (gw != y) = true := by simp; omega
        go_wp2
        go_ret
        exact ⟨rfl, bmk B _⟩
      · have g3 : decide (gw - gsh ≤ y) = true := decide_eq_true (by omega)
        have g4 : decide (gw ≤ y) = false := decide_eq_false (by omega)
        have g5 : decide (0 ≤ bad) = true := decide_eq_true hb0
        have g6 : (gw != y) = true := by simp; omega
        go_wp2
        go_ret
        exact ⟨rfl, bmk B _⟩
      · have g3 : decide (gw - gsh ≤ y) = false := decide_eq_false (by omega)
        have g4 : decide (gw ≤ y) = false := decide_eq_false (by omega)
        have g6 : (gw != y) = true := by simp; omega
        go_wp2
        go_ret
        exact ⟨rfl, bmk B _⟩
end Go.Proofs.Ytlklkloadefihaa
