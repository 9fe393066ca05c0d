/- Drawing a width and a greatest badness; the reference's breaks. No condition. -/
import Derived.Test.YtlklkloadefihaaMq
import Derived.Test.YtlklkloadefihaaMl
import Derived.Test.YtlklkloadefihaaMd
namespace Go.Proofs.Ytlklkloadefihaa
open Go.RowKit
set_option linter.unusedVariables false

theorem Blk.int_ {w : World} {g x : Nat} {t : TypeId} {cs : Array Value} (h : Blk w g t cs) (hok : (cs.all fun v => match v with | .int .i64 _ => true | _ => false) = true) (hx : x < cs.size) : ∃ y : Int, w.cell? ⟨g, x, none⟩ = some (.int .i64 y) := by
  have h1 := Array.all_eq_true.1 hok x hx
  have hc := h.cell x
  rw [Array.getElem?_eq_getElem hx] at hc
  cases hv : cs[x] with
  | int k y =>
    rw [hv] at hc h1
    cases k <;> first | exact ⟨y, hc⟩ | (simp at h1)
  | _ => rw [hv] at h1; simp at h1
theorem Blk.small {w : World} {g x : Nat} {t : TypeId} {cs : Array Value} (n : Nat) (h : Blk w g t cs) (hok : (cs.all fun v => match v with | .int .i64 y => decide (0 ≤ y ∧ y < n) | _ => false) = true) (hx : x < cs.size) : ∃ y : Nat, y < n ∧ w.cell? ⟨g, x, none⟩ = some (.int .i64 y) := by
  have h1 := Array.all_eq_true.1 hok x hx
  have hc := h.cell x
  rw [Array.getElem?_eq_getElem hx] at hc
  cases hv : cs[x] with
  | int k y =>
    rw [hv] at hc h1
    cases k with
    | i64 =>
      have h2 : 0 ≤ y ∧ y < n := of_decide_eq_true h1
      exact ⟨y.toNat, by omega, by rw [hc, show ((y.toNat : Nat) : Int) = y by omega]⟩
    | _ => simp at h1
  | _ => rw [hv] at h1; simp at h1
set_option maxRecDepth 100000 in
set_option maxHeartbeats 1600000 in
theorem r_width (g m : Nat) (w : World) (h : Rdr w g m) (hm : m ≤ 800000) :
    Calls Try.prog 44 #[.pointer (some ⟨g, 0, none⟩)] w fun e w' => ∃ y : Int, e = .returned (.int .i64 y) ∧ Rdr w' g (m + 3) ∧ w.grownBy w' (some g) := by
  go_enter Try.func44, Try.ntmps44
  go_wp2_with fail
  refine (r_pick g m _ _ h (by omega)).mono ?_
  rintro e w1 ⟨x1, rfl, hx1, hr1, hg1⟩
  have hx11 : x1 ≤ 59 := by omega
  clear hx1
  go_wp2_with fail
  refine (r_pick g _ _ _ hr1 (by omega)).mono ?_
  rintro e w2 ⟨x2, rfl, hx2, hr2, hg2⟩
  have hG2 := gtrans hg1 hg2
  have hgl := hr2.lt
  clear hr1 hg1 hg2 hx2
  go_wp2_with fail
  refine (r_pick g _ _ _ ((hr2.alloc _).alloc _) (by omega)).mono ?_
  rintro e w3 ⟨x3, rfl, hx3, hr3, hg3⟩
  have hA := ((Blk.new w2 _ _).alloc _).grown hg3 (by simp; omega)
  have hB := (Blk.new (w2.alloc _) _ _).grown hg3 (by simp; omega)
  simp only [size_alloc'] at hB
  have hG3 := gtrans (galloc (galloc hG2 _) _) hg3
  have hx33 : x3 < 10 := by omega
  obtain ⟨t, ht, htc⟩ := hB.small 6 (by decide +kernel) hx33
  obtain ⟨y, hyc⟩ := hA.int_ (by simp) ht
  have hxi : (x3 : Int) < 10 := by omega
  have hti : (t : Int) < 6 := by omega
  clear hA hB hx3 hr2 hg3
  go_wp2
  go_ret
  exact ⟨y, rfl, hr3.mono (by omega), hG3⟩
set_option maxRecDepth 100000 in
set_option maxHeartbeats 1600000 in
theorem r_most (g m : Nat) (w : World) (h : Rdr w g m) (hm : m ≤ 800000) :
    Calls Try.prog 60 #[.pointer (some ⟨g, 0, none⟩)] w fun e w' => ∃ y : Int, e = .returned (.int .i64 y) ∧ Rdr w' g (m + 3) ∧ w.grownBy w' (some g) := by
  go_enter Try.func60, Try.ntmps60
  go_wp2_with fail
  refine (r_pick g m _ _ h (by omega)).mono ?_
  rintro e w2 ⟨x2, rfl, hx2, hr2, hG2⟩
  have hgl := hr2.lt
  clear hx2
  go_wp2_with fail
  refine (r_pick g _ _ _ ((hr2.alloc _).alloc _) (by omega)).mono ?_
  rintro e w3 ⟨x3, rfl, hx3, hr3, hg3⟩
  have hA := ((Blk.new w2 _ _).alloc _).grown hg3 (by simp; omega)
  have hB := (Blk.new (w2.alloc _) _ _).grown hg3 (by simp; omega)
  simp only [size_alloc'] at hB
  have hG3 := gtrans (galloc (galloc hG2 _) _) hg3
  have hx33 : x3 < 9 := by omega
  obtain ⟨t, ht, htc⟩ := hB.small 7 (by decide +kernel) hx33
  obtain ⟨y, hyc⟩ := hA.int_ (by simp) ht
  have hxi : (x3 : Int) < 9 := by omega
  have hti : (t : Int) < 7 := by omega
  clear hA hB hx3 hr2 hg3
  go_wp2
  go_ret
  exact ⟨y, rfl, hr3.mono (by omega), hG3⟩
set_option maxHeartbeats 800000 in
theorem c_drawBestBreaks (A : Option Addr) (n c : Nat) (xs : List Int) (w : World) (h : CodeAt w A n c xs) :
    Calls Try.prog 35 #[.slice A n c] w fun e w' => ∃ (A : Option Addr) (c : Nat) (rs : List Item) (y z : Int), e = .returned (.tuple #[.slice A rs.length c, .int .i64 y, .int .i64 z]) ∧ rs.length ≤ 70 ∧ OwnT w' w.heap.size A c rs ∧ Below w.heap.size w w' := by
  go_enter Try.func35, Try.ntmps35
  go_wp2_with fail
  refine (r_open A n c xs _ h).mono ?_
  rintro e w1 ⟨g, rfl, hg, hr, hb⟩
  go_wp2_with fail
  refine (r_items g _ 12 _ hr (by omega) (by omega)).mono ?_
  rintro e w2 ⟨A2, c2, rs, rfl, hl, O, hr2, hg2⟩
  have hgl := hr.lt
  go_wp2_with fail
  refine (r_width g _ _ hr2 (by omega)).mono ?_
  rintro e w3 ⟨y, rfl, hr3, hg3⟩
  have O3 := O.pick hg3 hgl
  go_wp2_with fail
  refine (r_most g _ _ hr3 (by omega)).mono ?_
  rintro e w4 ⟨z, rfl, hr4, hg4⟩
  have O4 := O3.pick hg4 hgl
  go_wp2
  go_ret3
  exact ⟨_, _, rs, y, z, rfl, hl, own_base O4 hb.size, r_fresh hg hb (gtrans (gtrans hg2 hg3) hg4)⟩
set_option maxHeartbeats 400000 in
theorem c_drawFirstBreaks (A : Option Addr) (n c : Nat) (xs : List Int) (w : World) (h : CodeAt w A n c xs) :
    Calls Try.prog 25 #[.slice A n c] w fun e w' => ∃ (A : Option Addr) (c : Nat) (rs : List Item) (y z : Int), e = .returned (.tuple #[.slice A rs.length c, .int .i64 y, .int .i64 z]) ∧ rs.length ≤ 70 ∧ OwnT w' w.heap.size A c rs ∧ Below w.heap.size w w' := by
  go_enter Try.func25, Try.ntmps25
  go_wp2_with fail
  refine (c_drawBestBreaks A n c xs _ h).mono ?_
  rintro e w1 ⟨A1, c1, rs, y, z, rfl, hl, O, B⟩
  go_wp2
  go_ret3
  exact ⟨_, _, rs, y, z, rfl, hl, O, B⟩
set_option maxHeartbeats 800000 in
theorem c_mayBreak' (A : Option Addr) (n c : Nat) (rs : List Item) (k : Nat) (w : World) (hR : ItemsAt w A n c rs) (hk : k < n) :
    Calls Try.prog 62 #[.slice A n c, .int .i64 k] w fun e w' => ∃ b : Bool, e = .returned (.bool b) ∧ Below w.heap.size w w' := by
  have hbd := hR.bd
  go_enter Try.func62, Try.ntmps62
  go_wp2_with fail
  refine (c_itemsValid' A n c rs _ hR).mono ?_
  rintro e w1 ⟨rfl, hb⟩
  cases hv : itemsValid rs
  · go_wp2
    go_ret
    exact ⟨_, rfl, hb⟩
  · have hin : inB (k : Int) 0 ((n : Int) - 1) = true := inB_iff.2 (by omega)
    go_wp2_with (first | (go_at_call 47; refine (c_l1In _ _ _ _).mono ?_; rintro e w' ⟨rfl, rfl⟩) | (go_at_call 66; refine (c_l5Break A n c rs k _ (hR.next hb) hk).mono ?_; rintro e w2 ⟨rfl, hb2⟩))
    go_ret
    exact ⟨_, rfl, bnext hb hb2⟩
end Go.Proofs.Ytlklkloadefihaa
