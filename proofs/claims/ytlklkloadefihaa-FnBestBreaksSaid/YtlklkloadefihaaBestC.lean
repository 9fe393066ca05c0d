/- The reference's BestBreaks: contract. No condition. -/
import Derived.Test.YtlklkloadefihaaMbt
import Derived.Test.YtlklkloadefihaaMgl
import Derived.Test.YtlklkloadefihaaMf
import Derived.Deep.QuietTactic
import Derived.BigQuiet
import Derived.Deep.DeepCutAuto
namespace Go.Proofs.Ytlklkloadefihaa
open Go.RowKit
set_option linter.unusedVariables false

theorem argsB_false {rs : List Item} {width most : Int} (h : itemsValid rs = false ∨ inB width 0 1000 = false ∨ inB most 0 10000 = false ∨ rs.length = 0) : bestBreaks rs width most = [] ∧ (bestBr rs width most).isSome = false := by
  have : argsB rs width most = false := by
    rcases h with h | h | h | h <;> simp [argsB, h]
  simp [bestBreaks, bestBr, this]
theorem info4I : (Try.prog.info? 89).map (fun i => (i.zero, i.size, i.bytes)) = some (some (.agg #[.int .i64 0, .int .i64 0, .int .i64 0, .int .i64 0]), 4, 32) := by kernel_rfl
theorem info4B : (Try.prog.info? 88).map (fun i => (i.zero, i.size, i.bytes)) = some (some (.agg #[.bool false, .bool false, .bool false, .bool false]), 4, 4) := by kernel_rfl
/-- The three tables in memory. -/
structure Tabs3 (w : World) (g N : Nat) (V : Nat → Int) (G : Nat → Bool) (X : Nat → Int) : Prop where
  tv : Tab w g 89 N fun i => .int .i64 (V i)
  tg : Tab w (g + 1) 88 N fun i => .bool (G i)
  tx : Tab w (g + 1 + 1) 89 N fun i => .int .i64 (X i)
section
variable {w w' : World} {g N k : Nat} {V X : Nat → Int} {G : Nat → Bool}
theorem Tabs3.next (h : Tabs3 w g N V G X) (hb : Below w.heap.size w w') : Tabs3 w' g N V G X := ⟨h.tv.next hb, h.tg.next hb, h.tx.next hb⟩
theorem Tabs3.putG (h : Tabs3 w g N V G X) (k : Nat) (y : Bool) : Tabs3 (w.setCell ⟨g + 1, k, none⟩ (.bool y)) g N V (upd G k y) X := ⟨h.tv.far (by dsimp only; omega) _, h.tg.putB k y, h.tx.far (by dsimp only; omega) _⟩
theorem Tabs3.putV (h : Tabs3 w g N V G X) (k : Nat) (y : Int) : Tabs3 (w.setCell ⟨g, k, none⟩ (.int .i64 y)) g N (upd V k y) G X := ⟨h.tv.putI k y, h.tg.far (by dsimp only; omega) _, h.tx.far (by dsimp only; omega) _⟩
theorem Tabs3.putX (h : Tabs3 w g N V G X) (k : Nat) (y : Int) : Tabs3 (w.setCell ⟨g + 1 + 1, k, none⟩ (.int .i64 y)) g N V G (upd X k y) := ⟨h.tv.far (by dsimp only; omega) _, h.tg.far (by dsimp only; omega) _, h.tx.putI k y⟩
end
theorem c_costOf_q {bad cost x : Int} (h : 0 ≤ bad ∧ bad ≤ 10000) (hc : isCostB cost = true) (hx : Hid (costOf bad cost = x)) (w : World) :
    Calls Try.prog 64 #[.int .i64 bad, .int .i64 cost] w fun e w' => e = .returned (.int .i64 x) ∧ w' = w := by
  refine (c_costOf' bad cost h hc w).mono ?_
  rintro e w' ⟨rfl, rfl⟩
  exact ⟨by rw [unhide hx], rfl⟩
def skipR (rs : List Item) (p : Nat) : Bool := decide (1 ≤ p) && !breakB rs (p - 1)
theorem skipR_not {rs : List Item} {p : Nat} (h : skipR rs p = true) (hp : p < rs.length) : ¬ rowAsked rs p := by
  simp [skipR] at h
  rintro (e | e | e)
  · omega
  · omega
  · rw [h.2] at e; cases e
theorem skipR_asked {rs : List Item} {p : Nat} (h : skipR rs p = false) : rowAsked rs p := by
  simp [skipR] at h
  rcases Nat.eq_zero_or_pos p with e | e
  · exact .inl e
  · exact .inr (.inr (h e))
theorem own_set' {w : World} {B c g : Nat} {xs : List Int} (h : OwnI w B (some ⟨g, 0, none⟩) c xs) {p : Addr} (hp : p.block ≠ g) (u : Value) : OwnI (w.setCell p u) B (some ⟨g, 0, none⟩) c xs :=
  World.ownsRow.kept h (row := some p.block) ⟨rfl, rfl, rfl, by simp [World.setCell], fun i hi hne => Below.heap_setCell w p u i (fun e => hne (by rw [e]))⟩ (.inr (by simpa [Value.ownBlock] using fun e => hp e.symm))
set_option maxRecDepth 100000 in
set_option maxHeartbeats 6400000 in
theorem c_bestBreaks' (A : Option Addr) (n c : Nat) (rs : List Item) (width most : Int) (w : World) (hR : ItemsAt w A n c rs) :
    Calls Try.prog 36 #[.slice A n c, .int .i64 width, .int .i64 most] w fun e w' => ∃ A' c', e = .returned (.tuple #[.slice A' (bestBreaks rs width most).length c', .bool (bestBr rs width most).isSome]) ∧ OwnI w' w.heap.size A' c' (bestBreaks rs width most) ∧ Below w.heap.size w w' := by
  have hlen := hR.len
  have hbd := hR.bd
  have HLEN := hide hlen
  clear hlen
  have hb0 := bof w (.cells #[] 3)
  have o0 := OwnI.fresh w
  go_enter Try.func36, Try.ntmps36
  go_wp2_with fail
  refine (c_itemsValid' A n c rs _ (hR.next hb0)).mono ?_
  rintro e w1 ⟨rfl, hb1⟩
  replace o0 := o0.next hb1
  replace hb1 := bnext hb0 hb1
  clear hb0
  cases hv : itemsValid rs
  case' false =>
    have H := hide (argsB_false (rs := rs) (width := width) (most := most) (.inl hv))
    clear hv
    go_wp2
    go_ret2
    rw [(unhide H).1, (unhide H).2]
    exact ⟨_, _, rfl, o0, hb1⟩
  case' true =>
    cases hw : inB width 0 1000
    case' false =>
      have H := hide (argsB_false (rs := rs) (width := width) (most := most) (.inr (.inl hw)))
      clear hv
      go_wp2_with (go_at_call 47; refine (c_l1In _ _ _ _).mono ?_; rintro e w' ⟨rfl, rfl⟩)
      go_ret2
      rw [(unhide H).1, (unhide H).2]
      exact ⟨_, _, rfl, o0, hb1⟩
    case' true =>
      cases hm : inB most 0 10000
      case' false =>
        have H := hide (argsB_false (rs := rs) (width := width) (most := most) (.inr (.inr (.inl hm))))
        clear hv
        go_wp2_with (go_at_call 47; refine (c_l1In _ _ _ _).mono ?_; rintro e w' ⟨rfl, rfl⟩)
        go_ret2
        rw [(unhide H).1, (unhide H).2]
        exact ⟨_, _, rfl, o0, hb1⟩
      case' true =>
        rcases n with _ | n1
        case' zero =>
          have H := hide (argsB_false (rs := rs) (width := width) (most := most) (.inr (.inr (.inr (unhide HLEN)))))
          clear hv
          go_wp2_with (go_at_call 47; refine (c_l1In _ _ _ _).mono ?_; rintro e w' ⟨rfl, rfl⟩)
          go_ret2
          rw [(unhide H).1, (unhide H).2]
          exact ⟨_, _, rfl, o0, hb1⟩
        case' succ =>
          obtain ⟨n, hn1⟩ : ∃ n, n = n1 + 1 := ⟨_, rfl⟩
          rw [← hn1] at hR hbd HLEN ⊢
          have hz : ((n : Int) == 0) = false := by simp; omega
          have hn0 : 0 < n := by omega
          clear hn1
          have hargs : argsB rs width most = true := by simp [argsB, hv, hw, hm, unhide HLEN, hn0]
          obtain ⟨_, _, ⟨hw0, hw1⟩, hm0, hm1⟩ := argsB_iff.1 hargs
          have hn60 := (itemsValid_iff.1 hv).2
          rw [unhide HLEN] at hn60
          have HV := hide hv
          obtain ⟨X0, HX⟩ : ∃ X, Hid (bestBr rs width most = X) := ⟨_, rfl⟩
          have HX2 : Hid (X0 = if 0 ≤ (best rs width most St.start).cost then some (follow rs width most n St.start) else Option.none) := by show _ = _; rw [← unhide HX, bestBr, if_pos hargs, unhide HLEN]
          have HXB : Hid (bestBreaks rs width most = X0.getD []) := by show _ = _; rw [bestBreaks, unhide HX]
          clear hv hargs
          obtain ⟨iI, hiI, hzI0, hzI1, hzI2⟩ := info_parts info4I
          obtain ⟨iB, hiB, hzB0, hzB1, hzB2⟩ := info_parts info4B
          have hn4 : (n + 1) * 4 ≤ 244 := by omega
          go_wp2_with (first
            | (go_at_call 47; refine (c_l1In _ _ _ _).mono ?_; rintro e w' ⟨rfl, rfl⟩)
            | (at_make; refine wpList_make_tab _ rfl _ _ 86 rfl 89 iI (.agg #[.int .i64 0, .int .i64 0, .int .i64 0, .int .i64 0]) 4 Try.underlying86 hiI hzI0 hzI1 (n + 1) _ rfl rfl (by omega) (by omega) (by rw [hzI2]; omega) (by omega) ?_)
            | (at_make; refine wpList_make_tab _ rfl _ _ 87 rfl 88 iB (.agg #[.bool false, .bool false, .bool false, .bool false]) 4 Try.underlying87 hiB hzB0 hzB1 (n + 1) _ rfl rfl (by omega) (by omega) (by rw [hzB2]; omega) (by omega) ?_))
          have T0 : Tabs3 (((w1.alloc (.cells (madeCells #[.int .i64 0, .int .i64 0, .int .i64 0, .int .i64 0] ((n + 1) * 4)) 89)).alloc (.cells (madeCells #[.bool false, .bool false, .bool false, .bool false] ((n + 1) * 4)) 88)).alloc (.cells (madeCells #[.int .i64 0, .int .i64 0, .int .i64 0, .int .i64 0] ((n + 1) * 4)) 89)) w1.heap.size ((n + 1) * 4) (fun _ => 0) (fun _ => false) (fun _ => 0) := by
            refine ⟨((tab_made4 w1 89 (.int .i64 0) _).alloc _).alloc _, ?_, ?_⟩
            · have := (tab_made4 (w1.alloc (.cells (madeCells #[.int .i64 0, .int .i64 0, .int .i64 0, .int .i64 0] ((n + 1) * 4)) 89)) 88 (.bool false) ((n + 1) * 4)).alloc (.cells (madeCells #[.int .i64 0, .int .i64 0, .int .i64 0, .int .i64 0] ((n + 1) * 4)) 89)
              simpa only [size_alloc'] using this
            · have := tab_made4 ((w1.alloc (.cells (madeCells #[.int .i64 0, .int .i64 0, .int .i64 0, .int .i64 0] ((n + 1) * 4)) 89)).alloc (.cells (madeCells #[.bool false, .bool false, .bool false, .bool false] ((n + 1) * 4)) 88)) 89 (.int .i64 0) ((n + 1) * 4)
              simpa only [size_alloc'] using this
          have o1 := ((o0.next (bof _ (.cells (madeCells #[.int .i64 0, .int .i64 0, .int .i64 0, .int .i64 0] ((n + 1) * 4)) 89))).next (bof _ (.cells (madeCells #[.bool false, .bool false, .bool false, .bool false] ((n + 1) * 4)) 88))).next (bof _ (.cells (madeCells #[.int .i64 0, .int .i64 0, .int .i64 0, .int .i64 0] ((n + 1) * 4)) 89))
          have b1 := bmk (bmk (bmk hb1 (.cells (madeCells #[.int .i64 0, .int .i64 0, .int .i64 0, .int .i64 0] ((n + 1) * 4)) 89)) (.cells (madeCells #[.bool false, .bool false, .bool false, .bool false] ((n + 1) * 4)) 88)) (.cells (madeCells #[.int .i64 0, .int .i64 0, .int .i64 0, .int .i64 0] ((n + 1) * 4)) 89)
          have hq0 : w.heap.size < w1.heap.size := by have := World.ownsRow.lt o0 w.heap.size rfl; exact this.2
          generalize hwT : (((w1.alloc (.cells (madeCells #[.int .i64 0, .int .i64 0, .int .i64 0, .int .i64 0] ((n + 1) * 4)) 89)).alloc (.cells (madeCells #[.bool false, .bool false, .bool false, .bool false] ((n + 1) * 4)) 88)).alloc (.cells (madeCells #[.int .i64 0, .int .i64 0, .int .i64 0, .int .i64 0] ((n + 1) * 4)) 89)) = wT at T0 o1 b1 ⊢
          obtain ⟨q, HQ⟩ : ∃ q, Hid (w1.heap.size = q) := ⟨_, hide rfl⟩
          rw [unhide HQ] at T0 hq0 ⊢
          clear hwT o0 hb1 HQ
          go_loopw [13] (fun i wr => ∃ (k : Nat) (G : Nat → Bool), k ≤ 4 ∧ i = .int .i64 k ∧ Hid (∀ b, b < k → G (n * 4 + b) = true) ∧ Hid (RowsNew G n) ∧ Tabs3 wr q ((n + 1) * 4) (fun _ => 0) G (fun _ => 0) ∧ OwnI wr w.heap.size (some ⟨w.heap.size, 0, none⟩) 0 [] ∧ Below w.heap.size w wr) (fun i _ => 4 - (intOf i).toNat)
          case atStart => exact ⟨0, fun _ => false, by omega, rfl, fun b hb => by omega, fun i hi => rfl, T0, o1, b1⟩
          case round =>
            clear T0 o1 b1
            obtain ⟨k, G, hk, rfl, hG, hN, T, o1, hb⟩ := hrel
            by_cases hk4 : k < 4
            · have z0 := tab_atB T.tg (k := n * 4 + k) (by omega)
              have zf := T.tg.frozen (n * 4 + k)
              have hkk : (k : Int) < 4 := by omega
              have T2 := T.putG (n * 4 + k) true
              have o2 := own_set' o1 (p := ⟨q + 1, n * 4 + k, none⟩) (by dsimp only; omega) (.bool true)
              have b2 := hb.setCell (p := ⟨q + 1, n * 4 + k, none⟩) (by dsimp only; omega) (.bool true)
              clear T o1 hb
              go_wp2
              go_roundw
              case rel =>
                refine ⟨k + 1, _, by omega, by go_num, fun b hb => ?_, fun i hi => ?_, T2, o2, b2⟩
                · by_cases e : b = k
                  · subst e; exact upd_same _ _ _
                  · rw [upd_ne _ _ (by omega)]; exact unhide hG b (by omega)
                · rw [upd_ne _ _ (by omega)]; exact unhide hN i hi
              case measure => simp [intOf] <;> omega
            · obtain rfl : k = 4 := by omega
              have HD : Hid (RowsDone rs width most (fun _ => 0) G (fun _ => 0) n) := by
                have := done_end (rs := rs) (width := width) (most := most) (V := fun _ => 0) (G := G) (X := fun _ => 0) (fun b hb => ⟨rfl, by rw [unhide HLEN]; exact unhide hG b hb, rfl⟩)
                rw [unhide HLEN] at this
                exact this
              clear hG
              go_wp2
              go_loopw [14] (fun a wr => ∃ (r : Nat) (aft : Int) (V : Nat → Int) (G : Nat → Bool) (X : Nat → Int), r ≤ n ∧ a = .int .i64 aft ∧ Hid (aft = (r : Int) - 2) ∧ Hid (RowsDone rs width most V G X r) ∧ Hid (RowsNew G r) ∧ Tabs3 wr q ((n + 1) * 4) V G X ∧ OwnI wr w.heap.size (some ⟨w.heap.size, 0, none⟩) 0 [] ∧ Below w.heap.size w wr) (fun a _ => (intOf a + 2).toNat)
              case atStart => exact ⟨n, _, _, G, _, Nat.le_refl _, rfl, rfl, HD, hN, T, o1, hb⟩
              case round =>
                clear T o1 hb HD hN hk4 hk
                obtain ⟨r, aft, V, G, X, hr, rfl, haft, HD, hN, T, o1, hb⟩ := hrel
                rcases r with _ | p
                case' zero =>
                  obtain rfl : aft = -2 := by have := unhide haft; omega
                  clear haft
                  have hc0 := unhide HD 0 (by omega) (by omega) (.inl rfl) 1 (by omega)
                  rw [if_neg (by omega)] at hc0
                  dsimp only at hc0
                  have zg := tab_atB T.tg (k := 0 * 4 + 1) (by omega)
                  rw [hc0.good, stAt_zero (by rw [unhide HLEN]; exact hn0)] at zg
                  simp only [Nat.zero_mul, Nat.zero_add] at zg
                  obtain ⟨C0, HC0⟩ : ∃ b, Hid ((best rs width most St.start).cost = b) := ⟨_, rfl⟩
                  rw [unhide HC0] at zg
                  clear hc0
                  by_cases hpos : 0 ≤ C0
                  case' neg =>
                    have hd : decide (0 ≤ C0) = false := decide_eq_false hpos
                    have H : Hid (X0 = Option.none) := by show _ = _; rw [unhide HX2, unhide HC0, if_neg hpos]
                    clear HX2 HC0 HD hN
                    go_wp2
                    go_ret2
                    rw [unhide HXB, unhide HX, unhide H]
                    exact ⟨_, _, rfl, o1, hb⟩
                  case' pos =>
                    have hd : decide (0 ≤ C0) = true := decide_eq_true hpos
                    have H : Hid (X0 = some ([] ++ follow rs width most n (stAt rs 0 1))) := by show _ = _; rw [unhide HX2, unhide HC0, if_pos hpos, follow_zero (by rw [unhide HLEN]; exact hn0)]; rfl
                    have H0 : Hid (0 ≤ (best rs width most (stAt rs 0 1)).cost) := by show _ ≤ _; rw [stAt_zero (by rw [unhide HLEN]; exact hn0), unhide HC0]; exact hpos
                    clear HX2 HC0 hN
                    go_wp2
                    clear zg
                    go_loopw [8, 22, 23] (fun o a b wr => ∃ (r : Nat) (t : Int) (L f : Nat) (A2 : Option Addr) (c2 : Nat) (acc : List Int), r ≤ n ∧ a = .int .i64 t ∧ Hid (t = (r : Int) - 1) ∧ b = .int .i64 L ∧ L < 4 ∧ o = .slice A2 acc.length c2 ∧ acc.length ≤ r ∧ Hid (left rs (stAt rs r L) ≤ f) ∧ Hid (0 ≤ (best rs width most (stAt rs r L)).cost) ∧ Hid (rowAsked rs r) ∧ Hid (X0 = some (acc ++ follow rs width most f (stAt rs r L))) ∧ Tabs3 wr q ((n + 1) * 4) V G X ∧ OwnI wr w.heap.size A2 c2 acc ∧ Hid (∀ g, q ≤ g → g ≤ q + 1 + 1 → (Value.slice A2 acc.length c2).ownBlock ≠ some g) ∧ Below w.heap.size w wr) (fun _ a _ _ => n - (intOf a + 1).toNat)
                    case atStart =>
                      refine ⟨0, _, 1, n, _, _, [], by omega, rfl, rfl, rfl, by omega, rfl, by simp, ?_, H0, .inl rfl, H, T, o1, ?_, hb⟩
                      · show _ ≤ _; rw [left_stAt (by omega), unhide HLEN]; omega
                      · intro g h1 h2 e
                        simp [Value.ownBlock] at e
                        omega
                    case round =>
                      clear T o1 hb H H0
                      obtain ⟨r, t, L, f, A2, c2, acc, hrn, rfl, ht, rfl, hL4, rfl, hal, hleft, hpos2, hask, hX, T, hown, hne, hb⟩ := hrel
                      obtain rfl : t = (r : Int) - 1 := unhide ht
                      clear ht
                      by_cases hlt : r < n
                      case' neg =>
                        obtain rfl : r = n := by omega
                        have H : Hid (X0 = some acc) := by
                          show _ = _
                          rw [unhide hX, follow_end (by simp only [stAt]; rw [unhide HLEN])]; simp
                        have hge : decide ((r : Int) - 1 < (r : Int) - 1) = false := decide_eq_false (by omega)
                        clear hX hleft hpos2 hask hne HD
                        go_wp2
                        go_ret2
                        rw [unhide HXB, unhide HX, unhide H]
                        exact ⟨_, _, rfl, hown, hb⟩
                      case' pos =>
                        have hs1 : -1 ≤ (stAt rs r L).at_ := by simp only [stAt]; omega
                        have hs2 : (stAt rs r L).at_ < (rs.length : Int) - 1 := by simp only [stAt]; rw [unhide HLEN]; omega
                        obtain ⟨g, hf, hlg, hcb, hlt2, hltn, hl0, hl3, hmk⟩ := follow_step (rs := rs) (width := width) (most := most) (f := f) hs1 hs2 (unhide hleft) (unhide hpos2)
                        obtain ⟨hbd0, hlk⟩ := next_st (rs := rs) (width := width) (most := most) hs1 hs2 (unhide hpos2)
                        have hcell := unhide HD r (by omega) (by rw [unhide HLEN]; omega) (unhide hask) L (by omega)
                        rw [if_neg (by omega)] at hcell
                        dsimp only at hcell
                        have hxv := (hcell.val (unhide hpos2)).2
                        obtain ⟨NX, HNX⟩ : ∃ b, Hid ((best rs width most (stAt rs r L)).nx = b) := ⟨_, rfl⟩
                        rw [unhide HNX] at hf hlg hcb hlt2 hltn hl0 hl3 hmk hbd0 hlk hxv
                        obtain ⟨na, nm, nl⟩ := NX
                        dsimp only at hf hlg hcb hlt2 hltn hl0 hl3 hmk hbd0 hlk hxv
                        have hat : (stAt rs r L).at_ = (r : Int) - 1 := rfl
                        rw [hat] at hlt2 hbd0 hlk
                        obtain ⟨m, rfl⟩ := Int.eq_ofNat_of_zero_le (show 0 ≤ na by omega)
                        rw [unhide HLEN] at hltn
                        have hmn : m < n := by omega
                        have hrm : r ≤ m := by omega
                        obtain ⟨_, hlo, _⟩ := fitsB_iff.1 (lineBad_fits hbd0)
                        have hbrk := lineOk_break hlo
                        obtain ⟨bad, st, HB⟩ : ∃ bad st, Hid (badOf (lineTot rs ((r : Int) - 1) (m : Int)) width = (bad, st)) := ⟨_, _, rfl⟩
                        have he : lineBad rs ((r : Int) - 1) (m : Int) width = (bad, st) := by rw [lineBad_in (unhide HV) hlo ⟨hw0, hw1⟩]; exact unhide HB
                        have hb3 := (lineBad_bd rs ((r : Int) - 1) (m : Int) width).2
                        rw [he] at hbd0 hb3 hlk
                        dsimp only at hbd0 hb3 hlk
                        obtain ⟨L2, hL2⟩ := Int.eq_ofNat_of_zero_le hl0
                        subst hL2
                        rw [Int.toNat_natCast] at hmk
                        subst hmk
                        rw [end_st] at hf hlg hcb
                        have HLK : Hid (looksOf st bad = (L2 : Int)) := hlk.symm
                        have hL24 : L2 < 4 := by omega
                        have hXn : Hid (X0 = some ((acc ++ [(m : Int)]) ++ follow rs width most g (stAt rs (m + 1) L2))) := by
                          show _ = _; rw [unhide hX, hf, List.append_assoc]; rfl
                        have HLG := hide hlg
                        have HCB := hide hcb
                        have HASK : Hid (rowAsked rs (m + 1)) := .inr (.inr (by simpa using hbrk))
                        have zx := tab_at T.tx (k := r * 4 + L) (by omega)
                        rw [hxv] at zx
                        have hgt : decide ((r : Int) - 1 < (n : Int) - 1) = true := decide_eq_true (by omega)
                        have hgt2 : (r : Int) - 1 < (n : Int) - 1 := by omega
                        have hR1 := hR.next hb
                        clear hf hlg hcb hlt2 hltn hl0 hlk hxv hcell he hat hbrk hX hleft hpos2 hask hs1 hs2 HNX
                        go_wp2_with fail
                        refine (c_l7Bad A n c rs _ _ width _ hR1 (unhide HV) hlo ⟨hw0, hw1⟩ bad st HB).mono ?_
                        rintro e w2 ⟨rfl, hb2⟩
                        have hszq := T.tx.lt
                        have hb2s := hb2.size
                        replace T := T.next hb2
                        have hown2 := hown.next hb2
                        replace hb := bnext hb hb2
                        have hbsz := hb.size
                        clear hb2 hR1 HB hlo zx hown
                        go_wp2_with (first
                          | (go_at_call 63; refine (c_looksOf' st bad ⟨hbd0, hb3⟩ _).mono ?_; rintro e w3 ⟨rfl, rfl⟩; rw [unhide HLK])
                          | (at_builtin; refine wpList_push_L (m : Int) rfl rfl hown2 rfl rfl rfl (by omega) (by omega) ?_; intro A3 c3 w3 hown3 hg3 ho3 hnn))
                        go_roundw
                        case rel =>
                          have hne2 := unhide hne
                          refine ⟨m + 1, _, L2, g, A3, c3, acc ++ [(m : Int)], by omega, rfl, by show _ = _; omega, rfl, hL24, by simp, by simp; omega, HLG, HCB, HASK, hXn, ?_, hown3, ?_, b_own (bmk hb _) ho3 (Nat.le_refl _) hg3⟩
                          · refine ⟨(T.tv.alloc _).grown hg3 (fun e => hne2 q (by omega) (by omega) e.symm), (T.tg.alloc _).grown hg3 (fun e => hne2 (q + 1) (by omega) (by omega) e.symm), (T.tx.alloc _).grown hg3 (fun e => hne2 (q + 1 + 1) (by omega) (by omega) e.symm)⟩
                          · intro g h1 h2
                            exact hnn g _ (by omega) (hne2 g h1 h2)
                        case measure => simp [intOf] <;> omega
                case' succ =>
                  obtain rfl : aft = (p : Int) - 1 := by have := unhide haft; omega
                  clear haft
                  have hge : (-1 : Int) ≤ (p : Int) - 1 := by omega
                  have hge2 : decide ((-1 : Int) ≤ (p : Int) - 1) = true := by simpa using hge
                  have hR1 := hR.next hb
                  have hpn : p < n := by omega
                  have hN2 : Hid (RowsNew G p) := new_down (unhide hN)
                  have hR0 : Hid (RowIs (fun b => accN rs width most (best rs width most) (stAt rs p b) 0) (fun _ => Ch.none) 0 V G X p) := row_new (unhide hN)
                  clear hN
                  go_upto_region 15 with fail
                  go_cut [79] (fun s wx => s = .bool (skipR rs p) ∧ Tabs3 wx q ((n + 1) * 4) V G X ∧ OwnI wx w.heap.size (some ⟨w.heap.size, 0, none⟩) 0 [] ∧ Below w.heap.size w wx)
                  case first =>
                    by_cases hp1 : 1 ≤ p
                    · have hg1 : decide ((1 : Int) ≤ (p : Int)) = true := decide_eq_true (by omega)
                      have HS : Hid (skipR rs p = !breakB rs (p - 1)) := by show _ = _; simp [skipR, hp1]
                      go_wp2_with fail
                      refine (c_l5Break_i A n c rs _ (p - 1) (by omega) _ hR1 (by omega)).mono ?_
                      rintro e w2 ⟨rfl, hb2⟩
                      go_wp2
                      go_meet
                      exact ⟨by rw [unhide HS], T.next hb2, o1.next hb2, bnext hb hb2⟩
                    · have hg1 : decide ((1 : Int) ≤ (p : Int)) = false := decide_eq_false (by omega)
                      have HS : Hid (skipR rs p = false) := by show _ = _; simp [skipR, hp1]
                      go_wp2
                      go_meet
                      exact ⟨by rw [unhide HS], T, o1, hb⟩
                  case rest =>
                    clear T o1 hb hR1
                    obtain ⟨rfl, T, o1, hb⟩ := hcut
                    cases hsk : skipR rs p
                    case' true =>
                      have HD2 : Hid (RowsDone rs width most V G X p) := done_skip (unhide HD) (skipR_not hsk (by rw [unhide HLEN]; exact hpn))
                      clear HD hR0 hsk
                      go_wp2
                      go_roundw
                      case rel => exact ⟨p, _, V, G, X, by omega, rfl, by show _ = _; omega, HD2, hN2, T, o1, hb⟩
                      case measure => simp [intOf] <;> omega
                    case' false =>
                      have HASK : Hid (rowAsked rs p) := skipR_asked hsk
                      clear hsk
                      go_wp2
                      go_loopw [15] (fun a wr => ∃ (M : Nat) (t : Int) (V : Nat → Int) (G : Nat → Bool) (X : Nat → Int), p ≤ M ∧ M ≤ n ∧ a = .int .i64 t ∧ Hid (t = (M : Int) - 1) ∧ Hid (RowIs (fun b => accN rs width most (best rs width most) (stAt rs p b) (n - M)) (fun _ => Ch.none) 0 V G X p) ∧ Hid (RowsDone rs width most V G X (p + 1)) ∧ Hid (RowsNew G p) ∧ Tabs3 wr q ((n + 1) * 4) V G X ∧ OwnI wr w.heap.size (some ⟨w.heap.size, 0, none⟩) 0 [] ∧ Below w.heap.size w wr) (fun a _ => (intOf a + 1).toNat)
                      case atStart => exact ⟨n, _, V, G, X, by omega, by omega, rfl, rfl, by rw [Nat.sub_self]; exact hR0, HD, hN2, T, o1, hb⟩
                      case round =>
                        clear T o1 hb HD hN2 hR0
                        obtain ⟨M, t, V, G, X, hpM, hMn, rfl, ht, HROW, HD, hN, T, o1, hb⟩ := hrel
                        by_cases hlt : p < M
                        case' neg =>
                          obtain rfl : M = p := by omega
                          obtain rfl : t = (M : Int) - 1 := unhide ht
                          have HD2 : Hid (RowsDone rs width most V G X M) := done_row (unhide HD) (row_last (by rw [unhide HLEN]; exact unhide HROW) (by rw [unhide HLEN]; exact hpn))
                          clear HD HROW ht
                          go_wp2
                          go_roundw
                          case rel => exact ⟨M, _, V, G, X, by omega, rfl, by show _ = _; omega, HD2, hN, T, o1, hb⟩
                          case measure => simp [intOf] <;> omega
                        case' pos =>
                          obtain ⟨m, rfl⟩ : ∃ m, M = m + 1 := ⟨M - 1, by omega⟩
                          obtain rfl : t = (m : Int) := by have := unhide ht; omega
                          clear ht
                          have hpm : p ≤ m := by omega
                          have hmn : m < n := by omega
                          have hjm : rs.length - 1 - (n - (m + 1)) = m := by rw [unhide HLEN]; omega
                          have hjn : n - m = n - (m + 1) + 1 := by omega
                          have HSK : Hid ((∀ b, b < 4 → accN rs width most (best rs width most) (stAt rs p b) (n - m) = accN rs width most (best rs width most) (stAt rs p b) (n - (m + 1))) → RowIs (fun b => accN rs width most (best rs width most) (stAt rs p b) (n - m)) (fun _ => Ch.none) 0 V G X p) :=
                            fun he => row_congr (unhide HROW) he
                          have HSK2 : Hid ((∀ b, b < 4 → stepOf rs width most (stAt rs p b) (m : Int) = none) → RowIs (fun b => accN rs width most (best rs width most) (stAt rs p b) (n - m)) (fun _ => Ch.none) 0 V G X p) :=
                            fun he => unhide HSK fun b hb => by rw [hjn]; exact acc_skip hjm (he b hb)
                          have HJM := hide hjm
                          have HJN := hide hjn
                          clear hjm hjn
                          have hgt : (p : Int) - 1 < (m : Int) := by omega
                          have hgt2 : decide ((p : Int) - 1 < (m : Int)) = true := decide_eq_true hgt
                          have hR1 := hR.next hb
                          go_wp2_with fail
                          refine (c_l7Line A n c rs _ _ _ hR1 (itemsValid_iff.1 (unhide HV)).1 hn60).mono ?_
                          cases hlo : lineOk rs ((p : Int) - 1) (m : Int)
                          case' false =>
                            rintro e w2 ⟨rfl, hb2⟩
                            have HR2 := hide (unhide HSK2 fun b hb => step_notOk hlo)
                            replace T := T.next hb2
                            replace o1 := o1.next hb2
                            replace hb := bnext hb hb2
                            clear hb2 HSK HSK2 HROW hR1 hlo
                            go_wp2
                            go_roundw
                            case rel => exact ⟨m, _, V, G, X, by omega, by omega, rfl, rfl, HR2, HD, hN, T, o1, hb⟩
                            case measure => simp [intOf] <;> omega
                          case' true =>
                            rintro e w2 ⟨rfl, hb2⟩
                            replace T := T.next hb2
                            replace o1 := o1.next hb2
                            replace hb := bnext hb hb2
                            clear hb2 hR1
                            have hR1 := hR.next hb
                            obtain ⟨bad, st, HB⟩ : ∃ bad st, Hid (badOf (lineTot rs ((p : Int) - 1) (m : Int)) width = (bad, st)) := ⟨_, _, rfl⟩
                            have HE : Hid (lineBad rs ((p : Int) - 1) (m : Int) width = (bad, st)) := by show _ = _; rw [lineBad_in (unhide HV) hlo ⟨hw0, hw1⟩]; exact unhide HB
                            have hbrk := lineOk_break hlo
                            go_wp2_with fail
                            refine (c_l7Bad A n c rs _ _ width _ hR1 (unhide HV) hlo ⟨hw0, hw1⟩ bad st HB).mono ?_
                            rintro e w2 ⟨rfl, hb2⟩
                            replace T := T.next hb2
                            replace o1 := o1.next hb2
                            replace hb := bnext hb hb2
                            clear hb2 hR1 HB hlo
                            by_cases hno : bad < 0 ∨ most < bad
                            case' pos =>
                              have HR2 := hide (unhide HSK2 fun b hb => step_no (unhide HE) hno)
                              clear HSK HSK2 HROW HE hbrk
                              rcases noCases hno with h | ⟨h, h'⟩
                              all_goals
                                go_wp2
                                go_roundw
                                case rel => exact ⟨m, _, V, G, X, by omega, by omega, rfl, rfl, HR2, HD, hN, T, o1, hb⟩
                                case measure => simp [intOf] <;> omega
                            case' neg =>
                              have hbad0 : 0 ≤ bad := by omega
                              have hbm : bad ≤ most := by omega
                              have hg1 : decide (bad < 0) = false := decide_eq_false (by omega)
                              have hg2 : decide (most < bad) = false := decide_eq_false (by omega)
                              have hb3 := (lineBad_bd rs ((p : Int) - 1) (m : Int) width).2
                              rw [unhide HE] at hb3
                              dsimp only at hb3
                              obtain ⟨_, y1, y2, y3, hct⟩ := @fits_item rs ((p : Int) - 1) (m : Int) width (by rw [unhide HE]; exact hbad0)
                              clear y1 y2 y3
                              obtain ⟨bi, offi, r, hA, hbli, hr, i0, i1, i2, i3, i4, i5, i6⟩ := (hR.next hb).at_ hmn
                              subst hA
                              have hit := itAt_of hr
                              rw [Int.toNat_natCast, hit] at hct
                              obtain ⟨L, HL⟩ : ∃ L : Nat, Hid (looksOf st bad = (L : Int)) := ⟨(looksOf st bad).toNat, by show _ = _; have := looksOf_bd st bad; omega⟩
                              have hL3 : L ≤ 3 := by have := looksOf_bd st bad; rw [unhide HL] at this; omega
                              obtain ⟨cst, HC⟩ : ∃ x, Hid (costOf bad r.cost = x) := ⟨_, rfl⟩
                              have hcb := costOf_bd ⟨hbad0, hb3⟩ hct
                              rw [unhide HC] at hcb
                              obtain ⟨hcb0, hcb1⟩ := hcb
                              have HST : Hid (∀ b, b < 4 → stepOf rs width most (stAt rs p b) (m : Int) = some (cst + (exMark (stAt rs p b) (itAt rs m).mark + exLooks (stAt rs p b) (L : Int)), stAt rs (m + 1) L)) := by
                                intro b hb
                                rw [stepOf_parts (s := stAt rs p b) (unhide HE), if_neg hno, unhide HL, Int.toNat_natCast, hit, unhide HC, ← hit, end_st]
                              obtain ⟨BE, HBE⟩ : ∃ b, Hid (best rs width most (stAt rs (m + 1) L) = b) := ⟨_, rfl⟩
                              have hbeb := best_bound (rs := rs) (width := width) (most := most) (s := stAt rs (m + 1) L) (by simp [stAt] <;> omega) (by simp only [stAt]; rw [unhide HLEN]; omega)
                              rw [unhide HBE, unhide HLEN] at hbeb
                              have hcell := unhide HD (m + 1) (by omega) (by rw [unhide HLEN]; omega) (.inr (.inr hbrk)) L (by omega)
                              rw [if_neg (by omega)] at hcell
                              dsimp only at hcell
                              rw [unhide HBE] at hcell
                              obtain ⟨be, bx⟩ := BE
                              obtain ⟨hgd, hvl⟩ := hcell
                              dsimp only at hgd hvl hbeb
                              obtain ⟨hbe0, hbe1⟩ := hbeb
                              have hbe2 : be ≤ 13000000000 := by simp only [stAt] at hbe1; omega
                              have HF : Hid (∀ b, b < 4 → accN rs width most (best rs width most) (stAt rs p b) (n - m) = if 0 ≤ be ∧ ((accN rs width most (best rs width most) (stAt rs p b) (n - (m + 1))).cost < 0 ∨ cst + (exMark (stAt rs p b) (itAt rs m).mark + exLooks (stAt rs p b) (L : Int)) + be < (accN rs width most (best rs width most) (stAt rs p b) (n - (m + 1))).cost) then ⟨cst + (exMark (stAt rs p b) (itAt rs m).mark + exLooks (stAt rs p b) (L : Int)) + be, stAt rs (m + 1) L⟩ else accN rs width most (best rs width most) (stAt rs p b) (n - (m + 1))) := by
                                intro b hb
                                rw [unhide HJN, acc_step (unhide HJM) (unhide HST b hb), unhide HBE]
                              have zg := tab_atB T.tg (k := (m + 1) * 4 + L) (by omega)
                              have zv := tab_at T.tv (k := (m + 1) * 4 + L) (by omega)
                              rw [hgd] at zg
                              have HCT := hide hct
                              have hR1 := hR.next hb
                              clear hgd hbe1 HST HE hbrk hr hit i0 i1 i2 i3 i4 i6 hct hno
                              by_cases hbe : 0 ≤ be
                              case' neg =>
                                have hd : decide (0 ≤ be) = false := decide_eq_false hbe
                                have HR2 := hide (unhide HSK fun b hb => by rw [unhide HF b hb, if_neg (fun h => hbe h.1)])
                                clear HSK HSK2 HROW HF hvl zv
                                go_wp2_with (go_at_call 63; refine (c_looksOf' st bad ⟨hbad0, hb3⟩ _).mono ?_; rintro e w3 ⟨rfl, rfl⟩; rw [unhide HL])
                                go_roundw
                                case rel => exact ⟨m, _, V, G, X, by omega, by omega, rfl, rfl, HR2, HD, hN, T, o1, hb⟩
                                case measure => simp [intOf] <;> omega
                              case' pos =>
                                have hd : decide (0 ≤ be) = true := decide_eq_true hbe
                                rw [(hvl hbe).1] at zv
                                clear hvl HSK HSK2
                                go_wp2_with (go_at_call 63; refine (c_looksOf' st bad ⟨hbad0, hb3⟩ _).mono ?_; rintro e w3 ⟨rfl, rfl⟩; rw [unhide HL])
                                have hq1 := fun w => c_costOf_q ⟨hbad0, hb3⟩ (unhide HCT) HC w
                                go_quiet ((go_at_call 64; with_reducible exact Calls.quiet_of_same (hq1 _)))
                                have T2 : Tabs3 (w2.drewN nq) q ((n + 1) * 4) V G X := ⟨T.tv, T.tg, T.tx⟩
                                have o2 : OwnI (w2.drewN nq) w.heap.size (some ⟨w.heap.size, 0, none⟩) 0 [] := o1
                                have hb2 := bdrewN hb nq
                                generalize hwq : w2.drewN nq = wq at T2 o2 hb2 ⊢
                                clear hwq T o1 hb zg zv i5 hR1 hq1 HCT HC HL
                                go_wp2
                                go_loopw [20] (fun i wr => ∃ (k : Nat) (V : Nat → Int) (G : Nat → Bool) (X : Nat → Int), k ≤ 4 ∧ i = .int .i64 k ∧ Hid (RowIs (fun b => accN rs width most (best rs width most) (stAt rs p b) (n - (m + 1))) (fun b => accN rs width most (best rs width most) (stAt rs p b) (n - m)) k V G X p) ∧ Hid (RowsDone rs width most V G X (p + 1)) ∧ Hid (RowsNew G p) ∧ Tabs3 wr q ((n + 1) * 4) V G X ∧ OwnI wr w.heap.size (some ⟨w.heap.size, 0, none⟩) 0 [] ∧ Below w.heap.size w wr) (fun i _ => 4 - (intOf i).toNat)
                                case atStart => exact ⟨0, V, G, X, by omega, rfl, row_begin (unhide HROW) _, HD, hN, T2, o2, hb2⟩
                                case round =>
                                  clear T2 o2 hb2 HD hN HROW
                                  obtain ⟨k, V, G, X, hk, rfl, HROW, HD, hN, T, o1, hb⟩ := hrel
                                  by_cases hk4 : k < 4
                                  case' neg =>
                                    obtain rfl : k = 4 := by omega
                                    have HR2 : Hid (RowIs (fun b => accN rs width most (best rs width most) (stAt rs p b) (n - m)) (fun _ => Ch.none) 0 V G X p) := row_full (unhide HROW) _
                                    clear HROW HF
                                    go_wp2
                                    go_roundw
                                    case rel => exact ⟨m, _, V, G, X, by omega, by omega, rfl, rfl, HR2, HD, hN, T, o1, hb⟩
                                    case measure => simp [intOf] <;> omega
                                  case' pos =>
                                    have hkk : (k : Int) < 4 := by omega
                                    have hkk2 : decide ((k : Int) < 4) = true := decide_eq_true hkk
                                    have hR1 := hR.next hb
                                    obtain ⟨B, HB⟩ : ∃ B, Hid (exMark (stAt rs p k) (itAt rs m).mark + exLooks (stAt rs p k) (L : Int) = B) := ⟨_, rfl⟩
                                    have HBB : Hid (exMark ⟨(p : Int) - 1, decide (0 ≤ (p : Int) - 1) && (itAt rs ((p : Int) - 1).toNat).mark, (k : Int)⟩ (itAt rs m).mark + exLooks ⟨(p : Int) - 1, decide (0 ≤ (p : Int) - 1) && (itAt rs ((p : Int) - 1).toNat).mark, (k : Int)⟩ (L : Int) = B) := HB
                                    have hB0 := exMark_bd (stAt rs p k) (itAt rs m).mark
                                    have hB1 := exLooks_bd (stAt rs p k) (L : Int)
                                    have hB2 : 0 ≤ B := by rw [← unhide HB]; omega
                                    have hB3 : B ≤ 6000 := by rw [← unhide HB]; omega
                                    have hFk := unhide HF k hk4
                                    rw [unhide HB] at hFk
                                    have hcell := unhide HROW k hk4
                                    rw [if_neg (Nat.lt_irrefl k)] at hcell
                                    dsimp only at hcell
                                    obtain ⟨AC, HAC⟩ : ∃ a, Hid (accN rs width most (best rs width most) (stAt rs p k) (n - (m + 1)) = a) := ⟨_, rfl⟩
                                    rw [unhide HAC] at hcell hFk
                                    obtain ⟨hgd, hvl⟩ := hcell
                                    clear hB0 hB1 HB
                                    have HFK := hide hFk
                                    clear hFk
                                    go_wp2_with fail
                                    refine (c_l8Between _ n c rs ((p : Int) - 1) m (k : Int) (L : Int) _ hR1 ⟨by omega, by omega⟩ hmn ⟨by omega, by omega⟩ ⟨by omega, by omega⟩).mono ?_
                                    rw [unhide HBB]
                                    rintro e w4 ⟨rfl, hb4⟩
                                    replace T := T.next hb4
                                    replace o1 := o1.next hb4
                                    replace hb := bnext hb hb4
                                    clear hb4 HBB hR1
                                    have zg := tab_atB T.tg (k := p * 4 + k) (by omega)
                                    have zv := tab_at T.tv (k := p * 4 + k) (by omega)
                                    have zx := tab_at T.tx (k := p * 4 + k) (by omega)
                                    have fg := T.tg.frozen (p * 4 + k)
                                    have fv := T.tv.frozen (p * 4 + k)
                                    have fx := T.tx.frozen (p * 4 + k)
                                    rw [hgd] at zg
                                    have hcase : (AC.cost < 0 ∨ (0 ≤ AC.cost ∧ cst + be + B < AC.cost)) ∨ (0 ≤ AC.cost ∧ ¬ cst + be + B < AC.cost) := by omega
                                    rcases hcase with hup | ⟨hno1, hno2⟩
                                    case' inr =>
                                      have hd1 : decide (0 ≤ AC.cost) = true := decide_eq_true hno1
                                      rw [(hvl hno1).1] at zv
                                      have hd2 : decide (cst + be + B < AC.cost) = false := decide_eq_false hno2
                                      have HR2 : Hid (RowIs (fun b => accN rs width most (best rs width most) (stAt rs p b) (n - (m + 1))) (fun b => accN rs width most (best rs width most) (stAt rs p b) (n - m)) (k + 1) V G X p) := row_keep (unhide HROW) hk4 (by show accN rs width most (best rs width most) (stAt rs p k) (n - m) = accN rs width most (best rs width most) (stAt rs p k) (n - (m + 1)); rw [unhide HFK, unhide HAC, if_neg (by omega)])
                                      clear HROW HFK hvl hgd
                                      go_wp2
                                      go_roundw
                                      case rel => exact ⟨k + 1, V, G, X, by omega, by go_num, HR2, HD, hN, T, o1, hb⟩
                                      case measure => simp [intOf] <;> omega
                                    case' inl =>
                                      have HR2 : Hid (RowIs (fun b => accN rs width most (best rs width most) (stAt rs p b) (n - (m + 1))) (fun b => accN rs width most (best rs width most) (stAt rs p b) (n - m)) (k + 1) (upd V (p * 4 + k) (cst + be + B)) (upd G (p * 4 + k) true) (upd X (p * 4 + k) (m : Int)) p) :=
                                        row_put' (unhide HROW) hk4 (ex := stAt rs (m + 1) L) (by show accN rs width most (best rs width most) (stAt rs p k) (n - m) = _; rw [unhide HFK, if_pos (by omega), show cst + B + be = cst + be + B by omega]) (by omega) (by simp [stAt])
                                      have HD2 : Hid (RowsDone rs width most (upd V (p * 4 + k) (cst + be + B)) (upd G (p * 4 + k) true) (upd X (p * 4 + k) (m : Int)) (p + 1)) := done_put (unhide HD) (Nat.lt_succ_self p) hk4 _ _ _
                                      have hN2 : Hid (RowsNew (upd G (p * 4 + k) true) p) := new_put (unhide hN) _
                                      have T2 := ((T.putG (p * 4 + k) true).putV (p * 4 + k) (cst + be + B)).putX (p * 4 + k) (m : Int)
                                      have o2 := own_set' (own_set' (own_set' o1 (p := ⟨q + 1, p * 4 + k, none⟩) (by dsimp only; omega) (.bool true)) (p := ⟨q, p * 4 + k, none⟩) (by dsimp only; omega) (.int .i64 (cst + be + B))) (p := ⟨q + 1 + 1, p * 4 + k, none⟩) (by dsimp only; omega) (.int .i64 (m : Int))
                                      have b2 := ((hb.setCell (p := ⟨q + 1, p * 4 + k, none⟩) (by dsimp only; omega) (.bool true)).setCell (p := ⟨q, p * 4 + k, none⟩) (by dsimp only; omega) (.int .i64 (cst + be + B))).setCell (p := ⟨q + 1 + 1, p * 4 + k, none⟩) (by dsimp only; omega) (.int .i64 (m : Int))
                                      clear HROW HFK T o1 hb HD hN
                                      have hq1 : q ≠ q + 1 := by omega
                                      rcases hup with hac | ⟨hac, hlt2⟩
                                      case' inl =>
                                        have hd1 : decide (0 ≤ AC.cost) = false := decide_eq_false (by omega)
                                        clear hvl hgd
                                        go_wp2
                                        go_roundw
                                        case rel => exact ⟨k + 1, _, _, _, by omega, by go_num, HR2, HD2, hN2, T2, o2, b2⟩
                                        case measure => simp [intOf] <;> omega
                                      case' inr =>
                                        have hd1 : decide (0 ≤ AC.cost) = true := decide_eq_true hac
                                        rw [(hvl hac).1] at zv
                                        have hd2 : decide (cst + be + B < AC.cost) = true := decide_eq_true hlt2
                                        clear hvl hgd
                                        go_wp2
                                        go_roundw
                                        case rel => exact ⟨k + 1, _, _, _, by omega, by go_num, HR2, HD2, hN2, T2, o2, b2⟩
                                        case measure => simp [intOf] <;> omega
end Go.Proofs.Ytlklkloadefihaa
