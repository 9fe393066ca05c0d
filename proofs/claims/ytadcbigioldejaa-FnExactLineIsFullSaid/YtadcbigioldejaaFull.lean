/- LineIsFull on both sides: contracts. No condition. -/
import Derived.Test.YtadcbigioldejaaPlaceA
import Derived.Test.YtadcbigioldejaaPlaceC
namespace Go.Proofs.Ytadcbigioldejaa
open Go.RowKit
set_option linter.unusedVariables false

def isFull (rs : List Item) (after to width : Int) : Bool := okS rs after to width && decide (setX rs after to width = width)
set_option maxHeartbeats 800000 in
theorem c_lineIsFull (A : Option Addr) (n c : Nat) (rs : List Item) (after to width : Int) (w : World) (hR : ItemsAt w A n c rs) :
    Calls Try.prog 22 #[.slice A n c, .int .i64 after, .int .i64 to, .int .i64 width] w fun e w' => e = .returned (.bool (isFull rs after to width)) ∧ Below w.heap.size w w' := by
  obtain ⟨ps, HP⟩ : ∃ ps, Hid (setPs rs after to width = ps) := ⟨_, rfl⟩
  obtain ⟨x, HX⟩ : ∃ x, Hid (setX rs after to width = x) := ⟨_, rfl⟩
  obtain ⟨ok, HK⟩ : ∃ ok, Hid (okS rs after to width = ok) := ⟨_, rfl⟩
  have H : Hid (isFull rs after to width = (ok && decide (x = width))) := by show _ = _; rw [isFull, unhide HX, unhide HK]
  go_enter Try.func22, Try.ntmps22
  go_wp2_with fail
  refine (c_setLine A n c rs after to width _ hR).mono ?_
  rw [unhide HP, unhide HX, unhide HK]
  rintro e w1 ⟨A1, c1, rfl, _, hb⟩
  clear HP HX HK
  cases ok
  · go_wp2
    go_ret
    rw [unhide H]
    exact ⟨rfl, hb⟩
  · by_cases hx : x = width
    · have hx' : (x == width) = true := by simpa using hx
      go_wp2
      go_ret
      rw [unhide H]
      exact ⟨by simp [*], hb⟩
    · have hx' : (x == width) = false := by simpa using hx
      go_wp2
      go_ret
      rw [unhide H]
      exact ⟨by simp [*], hb⟩
set_option maxHeartbeats 800000 in
theorem c_lineIsFull' (A : Option Addr) (n c : Nat) (rs : List Item) (after to width : Int) (w : World) (hR : ItemsAt w A n c rs) :
    Calls Try.prog 21 #[.slice A n c, .int .i64 after, .int .i64 to, .int .i64 width] w fun e w' => e = .returned (.bool (isFull rs after to width)) ∧ Below w.heap.size w w' := by
  obtain ⟨ps, HP⟩ : ∃ ps, Hid (setPs rs after to width = ps) := ⟨_, rfl⟩
  obtain ⟨x, HX⟩ : ∃ x, Hid (setX rs after to width = x) := ⟨_, rfl⟩
  obtain ⟨ok, HK⟩ : ∃ ok, Hid (okS rs after to width = ok) := ⟨_, rfl⟩
  have H : Hid (isFull rs after to width = (ok && decide (x = width))) := by show _ = _; rw [isFull, unhide HX, unhide HK]
  go_enter Try.func21, Try.ntmps21
  go_wp2_with fail
  refine (c_setLine' A n c rs after to width _ hR).mono ?_
  rw [unhide HP, unhide HX, unhide HK]
  rintro e w1 ⟨A1, c1, rfl, _, hb⟩
  clear HP HX HK
  cases ok
  · go_wp2
    go_ret
    rw [unhide H]
    exact ⟨rfl, hb⟩
  · by_cases hx : x = width
    · have hx' : (x == width) = true := by simpa using hx
      go_wp2
      go_ret
      rw [unhide H]
      exact ⟨by simp [*], hb⟩
    · have hx' : (x == width) = false := by simpa using hx
      go_wp2
      go_ret
      rw [unhide H]
      exact ⟨by simp [*], hb⟩
end Go.Proofs.Ytadcbigioldejaa
