/- Drawing lists of rows out of a code. No condition. -/
import Derived.Test.YtfflnkkhemaanaaDrawRows
import Derived.Test.YtfflnkkhemaanaaRowsX
namespace Go.Proofs.Ytfflnkkhemaanaa
open Go.RowKit
set_option linter.unusedVariables false

set_option maxHeartbeats 800000 in
theorem r_rows (g m : Nat) (N : Nat) (w : World) (h : Rdr w g m) (hm : m ≤ 800000) (hN : N ≤ 1000000) :
    Calls Try.prog 36 #[.pointer (some ⟨g, 0, none⟩), .int .i64 N] w fun e w' => ∃ (v : Value) (rs : List Row), e = .returned v ∧ rs.length ≤ 31 ∧ w'.ownsRow w.heap.size 48 4 v rs.length (rs.flatMap Row.cells) ∧ Rdr w' g (m + 500) ∧ w.grownBy w' (some g) := by
  have hgl := h.lt
  obtain ⟨i0, hi, hz0, hz1, hz2⟩ := info_parts infoRow
  go_enter Try.func36, Try.ntmps36
  go_wp2_with fail
  refine (r_pick g m _ _ (h.alloc _) (by omega)).mono ?_
  rintro e w1 ⟨x1, rfl, hx1, hr1, hg1⟩
  have hx12 : x1 ≤ 11 := by omega
  have hown1 := (World.ownsRow_made (base := w.heap.size) (e := 48) (size := 4) w #[] 0 (Nat.le_refl _) (Nat.zero_le _) rfl).kept hg1 (.inr (by simp [Value.ownBlock]; omega))
  have hgr1 := gtrans (galloc (grefl w (some g)) _) hg1
  go_wp2_with fail
  go_loopw [5, 6] (fun v i wr => ∃ (k : Nat) (rs : List Row), k ≤ 11 ∧ i = .int .i64 k ∧ rs.length + k ≤ 11 ∧ wr.ownsRow w.heap.size 48 4 v rs.length (rs.flatMap Row.cells) ∧ Rdr wr g (m + 1 + rs.length * 8) ∧ w.grownBy wr (some g)) (fun _ i _ => (intOf i).toNat)
  case atStart => exact ⟨x1, [], hx12, rfl, by simpa using hx12, hown1, hr1, hgr1⟩
  case round =>
    clear hown1 hgr1 hr1 hg1 hx1 h
    obtain ⟨k, rs, hk, rfl, hrk, hown, hr, hgr⟩ := hrel
    by_cases hlt : 0 < k
    · go_wp2_with fail
      refine (r_row g _ 0 _ hr (by omega) (by omega)).mono ?_
      rintro e w2 ⟨r, rfl, hr2, hg2⟩
      have hown2 := hown.kept hg2 (.inr (fun e => by have := hown.lt _ e; omega))
      have hgr2 := gtrans hgr hg2
      clear hown hr hg2 hgr
      go_wp2_with (at_builtin; refine wpList_append_own _ rfl _ _ 23 rfl w.heap.size 48 i0 _ 4 32 Try.underlying23 hi hz0 hz1 hz2 rfl (by decide) _ _ _ rfl (hown2.alloc _) ⟨w2.heap.size, 0, none⟩ 1 1 [.int .i64 r.h, .bool r.k, .int .i64 r.n, .int .i64 r.f] rfl rfl ?c1 ?c2 ?c3 ?c4 ?c5 ?_)
      case c1 => exact cells4_new _ _ _ _ _ _
      case c2 => exact row_one r
      case c3 => unfold maxLen; omega
      case c4 => omega
      case c5 => have := hgr2.size; simp; omega
      intro v3 w3 hown3 hg3 _
      have hr3 := (hr2.alloc _).own (hown2.alloc _) (by omega) hg3
      have hgr3 := gown' (galloc hgr2 _) (hown2.alloc _) hg3
      rw [← flat_snoc] at hown3
      clear hr2 hown2 hgr2 hg3
      go_wp2
      go_roundw
      case rel => exact ⟨k - 1, rs ++ [r], by omega, by go_num, by simp; omega, by simpa using hown3, hr3.mono (by simp; omega), hgr3⟩
      case measure => simp [intOf]; omega
    · go_wp2_with fail
      refine (r_odd g _ N _ hr (by omega) hN).mono ?_
      rintro e w4 ⟨b, rfl, _, hr4, hg4⟩
      have hown4 := hown.kept hg4 (.inr (fun e => by have := hown.lt _ e; omega))
      have hgr4 := gtrans hgr hg4
      clear hown hr hg4 hgr
      cases b
      · go_wp2
        go_ret
        exact ⟨_, rs, rfl, by omega, hown4, hr4.mono (by omega), hgr4⟩
      · go_wp2_with fail
        refine (r_pick g _ _ _ hr4 (by omega)).mono ?_
        rintro e w5 ⟨x5, rfl, _, hr5, hg5⟩
        have hown5 := hown4.kept hg5 (.inr (fun e => by have := hown4.lt _ e; omega))
        have hgr5 := gtrans hgr4 hg5
        clear hown4 hr4 hg5 hgr4
        by_cases h5 : x5 = 0
        · subst h5
          go_wp2_with fail
          refine (r_row g _ 1 _ hr5 (by omega) (by omega)).mono ?_
          rintro e w6 ⟨r, rfl, hr6, hg6⟩
          have hown6 := hown5.kept hg6 (.inr (fun e => by have := hown5.lt _ e; omega))
          have hgr6 := gtrans hgr5 hg6
          clear hown5 hr5 hg6 hgr5
          go_wp2_with (at_builtin; refine wpList_append_own _ rfl _ _ 23 rfl w.heap.size 48 i0 _ 4 32 Try.underlying23 hi hz0 hz1 hz2 rfl (by decide) _ _ _ rfl (hown6.alloc _) ⟨w6.heap.size, 0, none⟩ 1 1 [.int .i64 r.h, .bool r.k, .int .i64 r.n, .int .i64 r.f] rfl rfl ?d1 ?d2 ?d3 ?d4 ?d5 ?_)
          case d1 => exact cells4_new _ _ _ _ _ _
          case d2 => exact row_one r
          case d3 => unfold maxLen; omega
          case d4 => omega
          case d5 => have := hgr6.size; simp; omega
          intro v7 w7 hown7 hg7 _
          have hr7 := (hr6.alloc _).own (hown6.alloc _) (by omega) hg7
          have hgr7 := gown' (galloc hgr6 _) (hown6.alloc _) hg7
          rw [← flat_snoc] at hown7
          go_wp2
          go_ret
          exact ⟨_, rs ++ [r], rfl, by simp; omega, by simpa using hown7, hr7.mono (by omega), hgr7⟩
        · have hz : ((x5 : Int) == 0) = false := by simp; omega
          have HR := hr5.mono (show m + 1 + rs.length * 8 + 1 + 1 ≤ m + 400 by omega)
          have hkz : k = 0 := by omega
          clear hr5
          obtain ⟨A5, c5, rfl, _, _, _, _, hownA⟩ := own_form hown5
          clear hown5
          go_wp2_with fail
          go_loopw [5] (fun v wr => ∃ (A : Option Addr) (c : Nat) (rs : List Row), v = .slice A rs.length c ∧ rs.length ≤ 31 ∧ wr.ownsRow w.heap.size 48 4 (.slice A rs.length c) rs.length (rs.flatMap Row.cells) ∧ Rdr wr g (m + 400) ∧ w.grownBy wr (some g)) (fun v _ => match v with | .slice _ n _ => 40 - n | _ => 0)
          case atStart => exact ⟨A5, c5, rs, rfl, by omega, hownA, HR, hgr5⟩
          case round =>
            clear hownA HR hgr5
            obtain ⟨A, c, rs, rfl, hl, hown, hr, hgr⟩ := hrel
            by_cases hlt : rs.length ≤ 30
            · go_wp2_with (at_builtin; refine wpList_append_own _ rfl _ _ 23 rfl w.heap.size 48 i0 _ 4 32 Try.underlying23 hi hz0 hz1 hz2 rfl (by decide) _ _ _ rfl (hown.alloc _) ⟨wr.heap.size, 0, none⟩ 1 1 [.int .i64 1, .bool false, .int .i64 0, .int .i64 0] rfl rfl ?e1 ?e2 ?e3 ?e4 ?e5 ?_)
              case e1 => exact cells4_new _ _ _ _ _ _
              case e2 => exact row_one ⟨1, false, 0, 0⟩
              case e3 => unfold maxLen; omega
              case e4 => omega
              case e5 => have := hgr.size; simp; omega
              intro v7 w7 hown7 hg7 _
              have hr7 := (hr.alloc _).own (hown.alloc _) (by omega) hg7
              have hgr7 := gown' (galloc hgr _) (hown.alloc _) hg7
              have hown8 : w7.ownsRow w.heap.size 48 4 v7 (rs ++ [(⟨1, false, 0, 0⟩ : Row)]).length ((rs ++ [(⟨1, false, 0, 0⟩ : Row)]).flatMap Row.cells) := by rw [flat_snoc]; simpa using hown7
              obtain ⟨A7, c7, rfl, _, _, _, _, hownB⟩ := own_form hown8
              clear hown hr hgr hg7 hown7 hown8
              go_wp2
              go_roundw
              case rel => exact ⟨A7, c7, rs ++ [⟨1, false, 0, 0⟩], rfl, by simp; omega, hownB, hr7, hgr7⟩
              case measure => simp; omega
            · go_wp2
              go_ret
              exact ⟨_, rs, rfl, hl, hown, hr.mono (by omega), hgr⟩

theorem r_rows' (g m : Nat) (N : Nat) (w : World) (h : Rdr w g m) (hm : m ≤ 800000) (hN : N ≤ 1000000) :
    Calls Try.prog 36 #[.pointer (some ⟨g, 0, none⟩), .int .i64 N] w fun e w' => ∃ (A : Option Addr) (c : Nat) (rs : List Row), e = .returned (.slice A rs.length c) ∧ rs.length ≤ 31 ∧ OwnR w' w.heap.size A c rs ∧ Rdr w' g (m + 500) ∧ w.grownBy w' (some g) := by
  refine (r_rows g m N w h hm hN).mono ?_
  rintro e w' ⟨v, rs, rfl, hl, ho, hr, hg⟩
  obtain ⟨A, c, rfl, ho'⟩ := OwnR.of ho
  exact ⟨A, c, rs, rfl, hl, ho', hr, hg⟩

set_option maxHeartbeats 400000 in
theorem r_open (A : Option Addr) (n c : Nat) (xs : List Int) (w : World) (h : CodeAt w A n c xs) :
    Calls Try.prog 35 #[.slice A n c] w fun e w' => ∃ g, e = .returned (.pointer (some ⟨g, 0, none⟩)) ∧ w.heap.size ≤ g ∧ Rdr w' g 0 ∧ Below w.heap.size w w' := by
  obtain ⟨hb, hnc, hcm⟩ := h
  unfold maxLen at hcm
  have hA : 0 < n → ∀ x, A = some x → x.block < w.heap.size := fun h0 x hx => by
    obtain ⟨b, off, e, hl, _⟩ := hb.1.cells h0
    rw [e] at hx; injection hx with hx; subst hx; exact hl
  by_cases h2 : 2000 < n
  · go_enter Try.func35, Try.ntmps35
    go_wp2
    go_ret
    have ht := hb.1.take (k := 2000) (by omega)
    rw [← List.map_take] at ht
    refine ⟨_, rfl, Nat.le_refl _, ⟨A, 2000, c, 0, xs.take 2000, heap_alloc_new _ _, ⟨by simpa using ht.next (bof _ _), fun x hx => hb.2 x (List.mem_of_mem_take hx)⟩, fun _ => hA (by omega), by omega, by omega⟩, bof _ _⟩
  · go_enter Try.func35, Try.ntmps35
    go_wp2
    go_ret
    refine ⟨_, rfl, Nat.le_refl _, ⟨A, n, c, 0, xs, heap_alloc_new _ _, ⟨hb.1.next (bof _ _), hb.2⟩, hA, by omega, by omega⟩, bof _ _⟩
/-- A list of rows drawn from a new reader. -/
theorem r_fresh {w w1 w2 : World} {g : Nat} (hg : w.heap.size ≤ g) (hb : Below w.heap.size w w1) (h2 : w1.grownBy w2 (some g)) : Below w.heap.size w w2 := bgrown hb hg h2 hb.size
end Go.Proofs.Ytfflnkkhemaanaa
