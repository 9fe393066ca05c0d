/- Drawing rows, a height and ends of pages. No condition. -/
import Derived.Test.YtpbccblenohhoaaDrawPages
import Derived.Test.YtpbccblenohhoaaIntRow
namespace Go.Proofs.Ytpbccblenohhoaa
open Go.RowKit
set_option linter.unusedVariables false

theorem rdr_own {w w' : World} {g m B e sz n : Nat} {v : Value} {xs : List Value} (h : Rdr w g m) (ho : w.ownsRow B e sz v n xs) (hB : g < B) (hg : w.grownBy w' v.ownBlock) : Rdr w' g m :=
  h.keep hg (fun k hk => Nat.lt_of_lt_of_le hB (ho.lt k hk).1)
theorem ne_own {w : World} {g B e sz n : Nat} {v : Value} {xs : List Value} (ho : w.ownsRow B e sz v n xs) (hB : g < B) : v.ownBlock = none ∨ v.ownBlock ≠ some g :=
  .inr (fun e => by have := (ho.lt _ e).1; omega)
set_option maxHeartbeats 3200000 in
theorem c_drawPagesCost (A : Option Addr) (n c : Nat) (xs : List Int) (w : World) (h : CodeAt w A n c xs) :
    Calls Try.prog 18 #[.slice A n c] w fun e w' => ∃ (A : Option Addr) (c : Nat) (rs : List Row) (y : Int) (A2 : Option Addr) (c2 : Nat) (es : List Int), e = .returned (.tuple #[.slice A rs.length c, .int .i64 y, .slice A2 es.length c2]) ∧ rs.length ≤ 31 ∧ (0 ≤ y ∧ y ≤ 1001) ∧ es.length ≤ 32 ∧ OwnR w' w.heap.size A c rs ∧ OwnI w' w.heap.size A2 c2 es ∧ Below w.heap.size w w' := by
  go_enter Try.func18, Try.ntmps18
  go_wp2_with fail
  refine (r_open A n c xs _ h).mono ?_
  rintro e w1 ⟨g, rfl, hg, hr, hb⟩
  go_wp2_with fail
  refine (r_rows' g _ 12 _ hr (by omega) (by omega)).mono ?_
  rintro e w2 ⟨A2, c2, rs, rfl, hl, O, hr2, hg2⟩
  have hgl := hr.lt
  go_wp2_with fail
  refine (r_high g _ _ hr2 (by omega)).mono ?_
  rintro e w3 ⟨y, rfl, hy, hr3, hg3⟩
  have O3 : OwnR w3 w1.heap.size A2 c2 rs := World.ownsRow.kept O hg3 (ne_own O hgl)
  have B3 := r_fresh hg hb (gtrans hg2 hg3)
  have hgl3 := hr3.lt
  have hbdR := O3.at_.bd
  clear O hr hr2 hg2 hg3
  go_wp2_with fail
  refine (c_firstPages' A2 _ c2 rs y _ O3.at_).mono ?_
  rintro e w4 ⟨A4, c4, rfl, X, hb4⟩
  have O4 := O3.next hb4
  have B4 := bnext B3 hb4
  have hr4 := hr3.next hb4
  have hfl : (firstPages rs y).length ≤ 30 := firstPages_len rs y
  obtain ⟨P, HP⟩ : ∃ P, Hid (P = firstPages rs y) := ⟨_, rfl⟩
  rw [← unhide HP] at X hfl
  rw [← unhide HP]
  have hs1 := hb.size
  have hs3 := B3.size
  clear O3 B3 hr3 HP
  go_wp2_with fail
  refine (r_odd g _ 3 _ hr4 (by omega) (by omega)).mono ?_
  rintro e w5 ⟨b, rfl, _, hr5, hg5⟩
  have O5 : OwnR w5 w1.heap.size A2 c2 rs := World.ownsRow.kept O4 hg5 (ne_own O4 hgl)
  have X5 : OwnI w5 w3.heap.size A4 c4 P := World.ownsRow.kept X hg5 (ne_own X hgl3)
  have B5 : Below w.heap.size w w5 := bgrown B4 hg hg5 B4.size
  have hgl5 := hr5.lt
  have hs5 := B5.size
  clear O4 X B4 hr4 hg5
  cases b
  · go_wp2
    go_ret3
    exact ⟨_, _, rs, y, _, _, P, rfl, hl, hy, by omega, own_base O5 hs1, own_base X5 hs3, B5⟩
  · clear X5 hfl
    have I0 : OwnI (w5.alloc (.cells #[] 3)) w5.heap.size (some ⟨w5.heap.size, 0, none⟩) 0 [] := World.ownsRow_made w5 #[] 0 (Nat.le_refl _) (Nat.zero_le _) rfl
    have G0 := galloc (grefl w5 (some g)) (.cells #[] 3)
    have r0 := hr5.alloc (.cells #[] 3)
    go_wp2_with fail
    go_loopw [8, 10] (fun v i wr => ∃ (j : Nat) (AI : Option Addr) (cI : Nat) (es : List Int), 1 ≤ j ∧ j ≤ 32 ∧ es.length < j ∧ i = .int .i64 j ∧ v = .slice AI es.length cI ∧ OwnI wr w5.heap.size AI cI es ∧ Rdr wr g (520 + j) ∧ w5.grownBy wr (some g)) (fun _ i _ => 40 - (intOf i).toNat)
    case atStart => exact ⟨1, _, _, [], by omega, by omega, by simp, by go_num, rfl, I0, r0.mono (by omega), G0⟩
    case round =>
      clear I0 G0 r0
      obtain ⟨j, AI, cI, es, hj1, hj2, hes, rfl, rfl, I, hr, hG⟩ := hrel
      have hws := hG.size
      by_cases hlt : (j : Int) ≤ (rs.length : Int)
      · by_cases hje : j = rs.length
        · subst hje
          have hz : ((rs.length : Int) == (rs.length : Int)) = true := by simp
          go_wp2_with (at_builtin; refine wpList_push_I (w0 := w5) (rs.length : Int) rfl rfl I rfl rfl (by omega) hws ?_; intro A6 c6 w6 O6 hg6 hpre; have G6 := gown' (galloc hG _) hpre hg6; have r6 := rdr_own (hr.alloc _) hpre hgl5 hg6; clear hg6 hpre I hG hr hws)
          go_roundw
          case rel => exact ⟨rs.length + 1, A6, c6, es ++ [(rs.length : Int)], by omega, by omega, by simp; omega, by go_num, by simp, O6, r6.mono (by omega), G6⟩
          case measure => simp [intOf]; omega
        · have hz : ((j : Int) == (rs.length : Int)) = false := by simp; omega
          go_wp2_with fail
          refine (r_pick g _ _ _ hr (by omega)).mono ?_
          rintro e w7 ⟨x7, rfl, hx7, hr7, hg7⟩
          have I7 : OwnI w7 w5.heap.size _ _ _ := World.ownsRow.kept I hg7 (ne_own I hgl5)
          have G7 := gtrans hG hg7
          have hw7 := G7.size
          clear I hr hG hg7 hws
          go_wp2_with (at_builtin; refine wpList_push_I (w0 := w5) (j : Int) rfl rfl I7 rfl rfl (by omega) hw7 ?_; intro A6 c6 w6 O6 hg6 hpre; have G6 := gown' (galloc G7 _) hpre hg6; have r6 := rdr_own (hr7.alloc _) hpre hgl5 hg6; clear hg6 hpre I7 G7 hr7 hw7)
          all_goals
            go_roundw
            case rel => first | exact ⟨j + 1, A6, c6, es ++ [(j : Int)], by omega, by omega, by simp; omega, by go_num, by simp, O6, r6.mono (by omega), G6⟩ | exact ⟨j + 1, AI, cI, es, by omega, by omega, by omega, by go_num, rfl, I7, hr7.mono (by omega), G7⟩
            case measure => simp [intOf]; omega
      · have O9 : OwnR wr w1.heap.size A2 c2 rs := World.ownsRow.kept O5 hG (ne_own O5 hgl)
        have B9 : Below w.heap.size w wr := bgrown B5 hg hG B5.size
        go_wp2_with fail
        go_ret3
        exact ⟨_, _, rs, y, _, _, es, rfl, hl, hy, by omega, own_base O9 hs1, own_base I hs5, B9⟩
end Go.Proofs.Ytpbccblenohhoaa
